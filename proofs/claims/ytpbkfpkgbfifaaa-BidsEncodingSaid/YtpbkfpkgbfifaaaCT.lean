/- Groups of bids, plainly: what the closure join computes, and that it finds the groups. -/
import Derived.Test.YtpbkfpkgbfifaaaCQ
namespace Go.Proofs.Ytpbkfpkgbfifaaa

/-- a key: a bidder (false) or a lot (true) -/
abbrev Key := Bool × Int
def hasK (l : List Bd) (i : Nat) (k : Key) : Bool := if k.1 then (l.getD i bd0).2.2.contains k.2 else (l.getD i bd0).1 == k.2
def rowK (l : List Bd) (n : Nat) (k : Key) : List Nat := (List.range n).filter fun i => hasK l i k
def keysOf (l : List Bd) (i : Nat) : List Key := (false, (l.getD i bd0).1) :: (l.getD i bd0).2.2.map fun t => (true, t)
theorem keysOf_iff (l : List Bd) (i : Nat) (k : Key) : k ∈ keysOf l i ↔ hasK l i k = true := by
  obtain ⟨t, x⟩ := k
  cases t
  · simp [keysOf, hasK]; exact eq_comm
  · simp [keysOf, hasK]
theorem confl_key (l : List Bd) (i j : Nat) : confl (l.getD i bd0) (l.getD j bd0) = true ↔ ∃ k, hasK l i k = true ∧ hasK l j k = true := by
  unfold confl hasK
  rw [Bool.or_eq_true, List.any_eq_true]
  constructor
  · rintro (h | ⟨t, h1, h2⟩)
    · exact ⟨(false, (l.getD i bd0).1), by simp, by simp at h ⊢; exact h.symm⟩
    · exact ⟨(true, t), by simpa using h1, by simpa using h2⟩
  · rintro ⟨⟨t, x⟩, h1, h2⟩
    cases t
    · left; simp at h1 h2; simp [h1, h2]
    · right; exact ⟨x, by simpa using h1, by simpa using h2⟩

/-- seen, group, deleted keys -/
structure JS where
  S : List Nat
  G : List Nat
  D : List Key
def othStep (l : List Bd) (s : List Nat × List Key) (k : Key) : List Nat × List Key := (s.1 ++ (if s.2.contains k then [] else rowK l l.length k), s.2 ++ [k])
def oth (l : List Bd) (ks : List Key) (s : List Nat × List Key) : List Nat × List Key := ks.foldl (othStep l) s
def joinF (l : List Bd) : Nat → Nat → JS → JS
  | 0, _, s => s
  | m + 1, i, s => if s.S.contains i then s else
      (oth l (keysOf l i) ([], s.D)).1.foldl (fun s j => joinF l m j s) ⟨i :: s.S, s.G ++ [i], (oth l (keysOf l i) ([], s.D)).2⟩
def joins (l : List Bd) (m : Nat) (o : List Nat) (s : JS) : JS := o.foldl (fun s j => joinF l m j s) s
def un (n : Nat) (S : List Nat) : Nat := ((List.range n).filter fun x => !S.contains x).length

theorem filter_len_le {α : Type} (p q : α → Bool) : ∀ l : List α, (∀ x ∈ l, p x = true → q x = true) → (l.filter p).length ≤ (l.filter q).length
  | [], _ => Nat.le_refl _
  | x :: l, h => by
    have ih := filter_len_le p q l (fun y hy => h y (List.mem_cons_of_mem _ hy))
    have hx := h x List.mem_cons_self
    cases hp : p x
    · rw [List.filter_cons_of_neg (by simp [hp])]
      cases hq : q x
      · rw [List.filter_cons_of_neg (by simp [hq])]; exact ih
      · rw [List.filter_cons_of_pos hq]; simp; omega
    · rw [List.filter_cons_of_pos hp, List.filter_cons_of_pos (hx hp)]; simp; omega
theorem filter_len_lt {α : Type} (p q : α → Bool) : ∀ l : List α, (∀ x ∈ l, p x = true → q x = true) → (∃ x ∈ l, p x = false ∧ q x = true) → (l.filter p).length < (l.filter q).length
  | [], _, h => by obtain ⟨x, hx, _⟩ := h; cases hx
  | x :: l, h, he => by
    have hle := filter_len_le p q l (fun y hy => h y (List.mem_cons_of_mem _ hy))
    have hx := h x List.mem_cons_self
    cases hp : p x
    · rw [List.filter_cons_of_neg (by simp [hp])]
      cases hq : q x
      · rw [List.filter_cons_of_neg (by simp [hq])]
        refine filter_len_lt p q l (fun y hy => h y (List.mem_cons_of_mem _ hy)) ?_
        obtain ⟨y, hy, h1, h2⟩ := he
        rcases List.mem_cons.1 hy with e | e
        · subst e; rw [hq] at h2; cases h2
        · exact ⟨y, e, h1, h2⟩
      · rw [List.filter_cons_of_pos hq]; simp; omega
    · rw [List.filter_cons_of_pos hp, List.filter_cons_of_pos (hx hp)]
      simp only [List.length_cons, Nat.add_lt_add_iff_right]
      refine filter_len_lt p q l (fun y hy => h y (List.mem_cons_of_mem _ hy)) ?_
      obtain ⟨y, hy, h1, h2⟩ := he
      rcases List.mem_cons.1 hy with e | e
      · subst e; rw [hp] at h1; cases h1
      · exact ⟨y, e, h1, h2⟩
theorem un_mono {n : Nat} {S S' : List Nat} (h : ∀ x ∈ S, x ∈ S') : un n S' ≤ un n S := by
  refine filter_len_le _ _ _ fun x _ hx => ?_
  simp only [Bool.not_eq_true', List.contains_eq_mem, decide_eq_false_iff_not] at hx ⊢
  exact fun e => hx (h x e)
theorem un_cons {n : Nat} {S : List Nat} {i : Nat} (hi : i < n) (h : i ∉ S) : un n (i :: S) < un n S := by
  refine filter_len_lt _ _ _ (fun x _ hx => ?_) ⟨i, List.mem_range.2 hi, by simp, by simpa using h⟩
  simp only [Bool.not_eq_true', List.contains_eq_mem, decide_eq_false_iff_not] at hx ⊢
  exact fun e => hx (List.mem_cons_of_mem _ e)
theorem un_le (n : Nat) (S : List Nat) : un n S ≤ n := by
  have := List.length_filter_le (fun x => !S.contains x) (List.range n)
  rw [List.length_range] at this
  exact this
theorem joinF_seen (l : List Bd) (m i : Nat) (s : JS) (h : s.S.contains i = true) : joinF l m i s = s := by
  cases m with
  | zero => rfl
  | succ m => rw [joinF, if_pos h]
theorem joinF_new (l : List Bd) (m i : Nat) (s : JS) (h : s.S.contains i = false) :
    joinF l (m + 1) i s = joins l m (oth l (keysOf l i) ([], s.D)).1 ⟨i :: s.S, s.G ++ [i], (oth l (keysOf l i) ([], s.D)).2⟩ := by
  rw [joinF, if_neg (by rw [h]; exact Bool.false_ne_true)]; rfl

theorem oth_D (l : List Bd) : ∀ (ks : List Key) (s : List Nat × List Key), (oth l ks s).2 = s.2 ++ ks
  | [], s => by simp [oth]
  | k :: ks, s => by
    have := oth_D l ks (othStep l s k)
    unfold oth at this ⊢
    rw [List.foldl_cons, this]
    simp [othStep]
theorem oth_keep (l : List Bd) : ∀ (ks : List Key) (s : List Nat × List Key), ∀ x ∈ s.1, x ∈ (oth l ks s).1
  | [], s, x, hx => hx
  | k :: ks, s, x, hx => by
    have := oth_keep l ks (othStep l s k) x (by simp only [othStep]; exact List.mem_append_left _ hx)
    unfold oth at this ⊢
    rw [List.foldl_cons]; exact this
theorem oth_all (l : List Bd) : ∀ (ks : List Key) (s : List Nat × List Key) (k : Key), k ∈ ks → k ∉ s.2 → ∀ x ∈ rowK l l.length k, x ∈ (oth l ks s).1
  | [], s, k, hk, _, _, _ => by cases hk
  | k0 :: ks, s, k, hk, hn, x, hx => by
    have e : oth l (k0 :: ks) s = oth l ks (othStep l s k0) := rfl
    rw [e]
    by_cases h0 : k = k0
    · subst h0
      refine oth_keep l ks _ x ?_
      simp only [othStep]
      rw [if_neg (by simpa using hn)]
      exact List.mem_append_right _ hx
    · refine oth_all l ks _ k ?_ ?_ x hx
      · rcases List.mem_cons.1 hk with h | h
        · exact absurd h h0
        · exact h
      · simp only [othStep, List.mem_append, List.mem_singleton]
        exact fun h => h.elim hn h0
theorem oth_from (l : List Bd) : ∀ (ks : List Key) (s : List Nat × List Key) (x : Nat), x ∈ (oth l ks s).1 → x ∈ s.1 ∨ ∃ k ∈ ks, x ∈ rowK l l.length k
  | [], s, x, hx => .inl hx
  | k0 :: ks, s, x, hx => by
    rcases oth_from l ks (othStep l s k0) x hx with h | ⟨k, h1, h2⟩
    · simp only [othStep, List.mem_append] at h
      rcases h with h | h
      · exact .inl h
      · split at h
        · cases h
        · exact .inr ⟨k0, List.mem_cons_self, h⟩
    · exact .inr ⟨k, List.mem_cons_of_mem _ h1, h2⟩
theorem mem_rowK {l : List Bd} {n : Nat} {k : Key} {x : Nat} : x ∈ rowK l n k ↔ x < n ∧ hasK l x k = true := by
  unfold rowK; rw [List.mem_filter, List.mem_range]

/-- bids that lead to each other by conflicts -/
inductive Reach (l : List Bd) (i : Nat) : Nat → Prop where
  | refl : Reach l i i
  | step {j k : Nat} : Reach l i j → k < l.length → confl (l.getD j bd0) (l.getD k bd0) = true → Reach l i k
theorem Reach.trans {l : List Bd} {i j k : Nat} (h : Reach l i j) (h' : Reach l j k) : Reach l i k := by
  induction h' with
  | refl => exact h
  | step _ hk hc ih => exact ih.step hk hc
theorem Reach.lt {l : List Bd} {i j : Nat} (h : Reach l i j) (hi : i < l.length) : j < l.length := by
  cases h with
  | refl => exact hi
  | step _ hk _ => exact hk
theorem Reach.symm {l : List Bd} {i j : Nat} (h : Reach l i j) (hi : i < l.length) : Reach l j i := by
  induction h with
  | refl => exact .refl
  | step h1 hk hc ih => exact (Reach.step (.refl) (h1.lt hi) (by rw [confl_symm]; exact hc)).trans ih

/-- what is known of the state: the keys of what is seen are deleted, seen are bids, the group is of them -/
structure JI (l : List Bd) (s : JS) : Prop where
  keys : ∀ x ∈ s.S, ∀ k ∈ keysOf l x, k ∈ s.D
  lt : ∀ x ∈ s.S, x < l.length
  gs : ∀ x ∈ s.G, x ∈ s.S
  nd : s.G.Nodup
structure JP (l : List Bd) (i : Nat) (s r : JS) : Prop where
  inv : JI l r
  sS : ∀ x ∈ s.S, x ∈ r.S
  sD : ∀ k ∈ s.D, k ∈ r.D
  newD : ∀ k ∈ r.D, k ∈ s.D ∨ ∀ x, x < l.length → hasK l x k = true → x ∈ r.S
  newS : ∀ x ∈ r.S, x ∈ s.S ∨ Reach l i x
  grp : ∀ x, x ∈ r.G ↔ x ∈ s.G ∨ (x ∈ r.S ∧ x ∉ s.S)
theorem JP.refl {l : List Bd} {i : Nat} {s : JS} (h : JI l s) : JP l i s s :=
  ⟨h, fun _ h => h, fun _ h => h, fun _ h => .inl h, fun _ h => .inl h, fun _ => ⟨.inl, fun h => h.elim id fun h => absurd h.1 h.2⟩⟩
theorem JP.trans {l : List Bd} {i : Nat} {s r t : JS} (h : JP l i s r) (k : JP l i r t) : JP l i s t := by
  refine ⟨k.inv, fun x hx => k.sS x (h.sS x hx), fun x hx => k.sD x (h.sD x hx), fun x hx => ?_, fun x hx => ?_, fun x => ?_⟩
  · rcases k.newD x hx with h1 | h1
    · rcases h.newD x h1 with h2 | h2
      · exact .inl h2
      · exact .inr fun y hy hk => k.sS y (h2 y hy hk)
    · exact .inr h1
  · rcases k.newS x hx with h1 | h1
    · exact h.newS x h1
    · exact .inr h1
  · rw [k.grp, h.grp]
    constructor
    · rintro ((h1 | ⟨h1, h2⟩) | ⟨h1, h2⟩)
      · exact .inl h1
      · exact .inr ⟨k.sS x h1, h2⟩
      · exact .inr ⟨h1, fun e => h2 (h.sS x e)⟩
    · rintro (h1 | ⟨h1, h2⟩)
      · exact .inl (.inl h1)
      · by_cases e : x ∈ r.S
        · exact .inl (.inr ⟨e, h2⟩)
        · exact .inr ⟨h1, e⟩
theorem JP.from {l : List Bd} {i j : Nat} {s r : JS} (h : JP l j s r) (hr : Reach l i j) : JP l i s r :=
  ⟨h.inv, h.sS, h.sD, h.newD, fun x hx => (h.newS x hx).elim .inl fun h => .inr (hr.trans h), h.grp⟩

theorem joinF_post (l : List Bd) : ∀ (m i : Nat) (s : JS), i < l.length → un l.length s.S ≤ m → JI l s → JP l i s (joinF l m i s) ∧ i ∈ (joinF l m i s).S := by
  intro m
  induction m with
  | zero =>
    intro i s hi hu hs
    have hm : i ∈ s.S := by
      by_cases e : i ∈ s.S
      · exact e
      · have := un_cons hi e; omega
    exact ⟨.refl hs, hm⟩
  | succ m ih =>
    intro i s hi hu hs
    by_cases hc : s.S.contains i = true
    · rw [joinF_seen _ _ _ _ hc]
      exact ⟨.refl hs, by simpa using hc⟩
    · have hc' : s.S.contains i = false := by simpa using hc
      have hni : i ∉ s.S := by simpa using hc
      rw [joinF_new _ _ _ _ hc']
      have fold : ∀ (o : List Nat) (t : JS), (∀ j ∈ o, j < l.length ∧ Reach l i j) → un l.length t.S ≤ m → JI l t → JP l i t (joins l m o t) ∧ ∀ j ∈ o, j ∈ (joins l m o t).S := by
        intro o
        induction o with
        | nil => intro t _ _ ht; exact ⟨.refl ht, fun j hj => by cases hj⟩
        | cons j o iho =>
          intro t ho hut ht
          have hj := ho j List.mem_cons_self
          obtain ⟨p1, p2⟩ := ih j t hj.1 hut ht
          obtain ⟨q1, q2⟩ := iho (joinF l m j t) (fun x hx => ho x (List.mem_cons_of_mem _ hx)) (Nat.le_trans (un_mono p1.sS) hut) p1.inv
          have e : joins l m (j :: o) t = joins l m o (joinF l m j t) := rfl
          rw [e]
          refine ⟨(p1.from hj.2).trans q1, fun x hx => ?_⟩
          rcases List.mem_cons.1 hx with h | h
          · subst h; exact q1.sS _ p2
          · exact q2 x h
      have hD := oth_D l (keysOf l i) ([], s.D)
      have hI : JI l ⟨i :: s.S, s.G ++ [i], (oth l (keysOf l i) ([], s.D)).2⟩ := by
        refine ⟨fun x hx k hk => ?_, fun x hx => ?_, fun x hx => ?_, ?_⟩
        · rw [hD]
          rcases List.mem_cons.1 hx with h | h
          · subst h; exact List.mem_append_right _ hk
          · exact List.mem_append_left _ (hs.keys x h k hk)
        · rcases List.mem_cons.1 hx with h | h
          · subst h; exact hi
          · exact hs.lt x h
        · rcases List.mem_append.1 hx with h | h
          · exact List.mem_cons_of_mem _ (hs.gs x h)
          · rw [List.mem_singleton.1 h]; exact List.mem_cons_self
        · refine List.nodup_append.2 ⟨hs.nd, by simp, fun x hx y hy => ?_⟩
          rw [List.mem_singleton.1 hy]
          exact fun e => hni (e ▸ hs.gs x hx)
      have ho : ∀ j ∈ (oth l (keysOf l i) ([], s.D)).1, j < l.length ∧ Reach l i j := by
        intro j hj
        rcases oth_from l _ _ j hj with h | ⟨k, h1, h2⟩
        · cases h
        · obtain ⟨h3, h4⟩ := mem_rowK.1 h2
          exact ⟨h3, Reach.refl.step h3 ((confl_key l i j).2 ⟨k, (keysOf_iff l i k).1 h1, h4⟩)⟩
      obtain ⟨p1, p2⟩ := fold _ _ ho (by show un l.length (i :: s.S) ≤ m; have := un_cons hi hni; omega) hI
      refine ⟨⟨p1.inv, fun x hx => p1.sS x (List.mem_cons_of_mem _ hx), fun k hk => p1.sD k (by rw [hD]; exact List.mem_append_left _ hk), fun k hk => ?_, fun x hx => ?_, fun x => ?_⟩, p1.sS i List.mem_cons_self⟩
      · rcases p1.newD k hk with h | h
        · rw [hD] at h
          by_cases e : k ∈ s.D
          · exact .inl e
          · rcases List.mem_append.1 h with h | h
            · exact .inl h
            · exact .inr fun x hx hxk => p2 x (oth_all l _ _ k h e x (mem_rowK.2 ⟨hx, hxk⟩))
        · exact .inr h
      · rcases p1.newS x hx with h | h
        · rcases List.mem_cons.1 h with h | h
          · subst h; exact .inr .refl
          · exact .inl h
        · exact .inr h
      · rw [p1.grp]
        show (x ∈ s.G ++ [i] ∨ x ∈ (joins l m _ _).S ∧ x ∉ i :: s.S) ↔ _
        rw [List.mem_append, List.mem_singleton, List.mem_cons]
        constructor
        · rintro ((h | h) | ⟨h1, h2⟩)
          · exact .inl h
          · subst h; exact .inr ⟨p1.sS _ List.mem_cons_self, hni⟩
          · exact .inr ⟨h1, fun e => h2 (.inr e)⟩
        · rintro (h | ⟨h1, h2⟩)
          · exact .inl (.inl h)
          · by_cases e : x = i
            · exact .inl (.inr e)
            · exact .inr ⟨h1, fun h => h.elim e h2⟩

/-- what Parts makes of the first k bids -/
structure PSt where
  S : List Nat
  D : List Key
  R : List (List Nat)
def sortG (n : Nat) (G : List Nat) : List Nat := (List.range n).filter fun x => G.contains x
def partStep (l : List Bd) (s : PSt) (i : Nat) : PSt := if s.S.contains i then s else
  let r := joinF l l.length i ⟨s.S, [], s.D⟩
  ⟨r.S, r.D, s.R ++ [sortG l.length r.G]⟩
def partsK (l : List Bd) (k : Nat) : PSt := (List.range k).foldl (partStep l) ⟨[], [], []⟩
def partsF (l : List Bd) : List (List Nat) := (partsK l l.length).R
theorem partsK_succ (l : List Bd) (k : Nat) : partsK l (k + 1) = partStep l (partsK l k) k := by
  unfold partsK; rw [List.range_succ, List.foldl_append]; rfl

open Classical in
noncomputable def comp (l : List Bd) (i : Nat) : List Nat := (List.range l.length).filter fun x => decide (Reach l i x)
open Classical in
noncomputable def heads (l : List Bd) (k : Nat) : List Nat := (List.range k).filter fun i => decide (∀ j, j < i → ¬ Reach l j i)
theorem mem_comp {l : List Bd} {i x : Nat} : x ∈ comp l i ↔ x < l.length ∧ Reach l i x := by
  unfold comp; rw [List.mem_filter, List.mem_range]; simp
structure PI (l : List Bd) (k : Nat) (s : PSt) : Prop where
  keys : ∀ x ∈ s.S, ∀ c ∈ keysOf l x, c ∈ s.D
  mem : ∀ x, x ∈ s.S ↔ x < l.length ∧ ∃ j, j < k ∧ Reach l j x
  clo : ∀ c ∈ s.D, ∀ x, x < l.length → hasK l x c = true → x ∈ s.S
  res : s.R = (heads l k).map (comp l)
theorem parts_inv (l : List Bd) : ∀ k, k ≤ l.length → PI l k (partsK l k) := by
  intro k
  induction k with
  | zero => intro _; exact ⟨fun x hx => (by cases hx), fun x => ⟨fun h => (by cases h), fun ⟨_, j, hj, _⟩ => absurd hj (by omega)⟩, fun c hc => (by cases hc), rfl⟩
  | succ k ih =>
    intro hk
    have h := ih (by omega)
    have hkl : k < l.length := by omega
    rw [partsK_succ]
    generalize partsK l k = s at h ⊢
    have hh : heads l (k + 1) = if k ∈ s.S then heads l k else heads l k ++ [k] := by
      unfold heads
      rw [List.range_succ, List.filter_append]
      by_cases e : k ∈ s.S
      · rw [if_pos e]
        obtain ⟨_, j, hj, hr⟩ := (h.mem k).1 e
        rw [List.filter_cons_of_neg (by simp; exact ⟨j, hj, hr⟩)]; simp
      · rw [if_neg e]
        rw [List.filter_cons_of_pos (by simp; exact fun j hj hr => e ((h.mem k).2 ⟨hkl, j, hj, hr⟩))]; simp
    unfold partStep
    by_cases e : k ∈ s.S
    · rw [if_pos (by simpa using e)]
      refine ⟨h.keys, fun x => ?_, h.clo, by rw [hh, if_pos e]; exact h.res⟩
      rw [h.mem]
      constructor
      · rintro ⟨h1, j, h2, h3⟩; exact ⟨h1, j, by omega, h3⟩
      · rintro ⟨h1, j, h2, h3⟩
        refine ⟨h1, ?_⟩
        by_cases ej : j = k
        · subst ej
          obtain ⟨_, i, hi, hr⟩ := (h.mem j).1 e
          exact ⟨i, hi, hr.trans h3⟩
        · exact ⟨j, by omega, h3⟩
    · rw [if_neg (by simpa using e)]
      obtain ⟨p, pk⟩ := joinF_post l l.length k ⟨s.S, [], s.D⟩ hkl (un_le _ _) ⟨h.keys, fun x hx => ((h.mem x).1 hx).1, fun x hx => (by cases hx), List.nodup_nil⟩
      generalize joinF l l.length k ⟨s.S, [], s.D⟩ = r at p pk ⊢
      have clo : ∀ c ∈ r.D, ∀ x, x < l.length → hasK l x c = true → x ∈ r.S := fun c hc x hx hxc => by
        rcases p.newD c hc with h1 | h1
        · exact p.sS x (h.clo c h1 x hx hxc)
        · exact h1 x hx hxc
      have reach : ∀ x, Reach l k x → x ∈ r.S := by
        intro x hx
        induction hx with
        | refl => exact pk
        | step h1 hj hc ih =>
          obtain ⟨c, hc1, hc2⟩ := (confl_key l _ _).1 hc
          exact clo c (p.inv.keys _ ih c ((keysOf_iff l _ c).2 hc1)) _ hj hc2
      have apart : ∀ x, Reach l k x → x ∉ s.S := by
        intro x hx hs
        obtain ⟨h1, j, h2, h3⟩ := (h.mem x).1 hs
        exact e ((h.mem k).2 ⟨hkl, j, h2, h3.trans (hx.symm hkl)⟩)
      refine ⟨p.inv.keys, fun x => ?_, clo, ?_⟩
      · constructor
        · intro hx
          refine ⟨p.inv.lt x hx, ?_⟩
          rcases p.newS x hx with h1 | h1
          · obtain ⟨_, j, h2, h3⟩ := (h.mem x).1 h1; exact ⟨j, by omega, h3⟩
          · exact ⟨k, by omega, h1⟩
        · rintro ⟨h1, j, h2, h3⟩
          by_cases ej : j = k
          · subst ej; exact reach x h3
          · exact p.sS x ((h.mem x).2 ⟨h1, j, by omega, h3⟩)
      · show s.R ++ [sortG l.length r.G] = _
        rw [hh, if_neg e, List.map_append, ← h.res]
        congr 1
        simp only [List.map_cons, List.map_nil, List.cons.injEq, and_true]
        unfold sortG comp
        refine List.filter_congr fun x hx => ?_
        rw [Bool.eq_iff_iff]
        simp only [List.contains_eq_mem, decide_eq_true_eq]
        rw [p.grp]
        constructor
        · rintro (h1 | ⟨h1, h2⟩)
          · cases h1
          · rcases p.newS x h1 with h3 | h3
            · exact absurd h3 h2
            · exact h3
        · intro h1; exact .inr ⟨reach x h1, apart x h1⟩
theorem partsF_eq (l : List Bd) : partsF l = (heads l l.length).map (comp l) := (parts_inv l l.length (Nat.le_refl _)).res
end Go.Proofs.Ytpbkfpkgbfifaaa
