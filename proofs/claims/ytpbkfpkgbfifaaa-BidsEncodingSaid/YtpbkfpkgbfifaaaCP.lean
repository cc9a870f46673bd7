/- Choices of bids: what the search and the brute force find (plain). -/
namespace Go.Proofs.Ytpbkfpkgbfifaaa

/-- a bid: bidder, price, lots -/
abbrev Bd := Int × Int × List Int
def bd0 : Bd := (0, 0, [])
def confl (x y : Bd) : Bool := x.1 == y.1 || x.2.2.any fun t => y.2.2.contains t
theorem confl_symm (x y : Bd) : confl x y = confl y x := by
  unfold confl
  rw [Bool.eq_iff_iff]
  simp only [Bool.or_eq_true, beq_iff_eq, List.any_eq_true, List.contains_iff_mem]
  exact ⟨fun h => h.elim (fun h => .inl h.symm) (fun ⟨t, a, b⟩ => .inr ⟨t, b, a⟩), fun h => h.elim (fun h => .inl h.symm) (fun ⟨t, a, b⟩ => .inr ⟨t, b, a⟩)⟩

def pr (l : List Bd) (i : Nat) : Int := (l.getD i bd0).2.1
def val (l : List Bd) : List Nat → Int
  | [] => 0
  | i :: c => pr l i + val l c
theorem val_app (l : List Bd) (a b : List Nat) : val l (a ++ b) = val l a + val l b := by
  induction a with
  | nil => simp [val]
  | cons x a ih => simp only [List.cons_append, val, ih]; omega
def rest (l : List Bd) : Nat → Int
  | 0 => 0
  | m + 1 => pr l (l.length - (m + 1)) + rest l m
def conf (l : List Bd) (i : Nat) (ch : List Nat) : Bool := ch.any fun j => confl (l.getD i bd0) (l.getD j bd0)
def visit (l : List Bd) (st : List Nat × Int) (c : List Nat) : List Nat × Int := if st.2 < val l c then (c, val l c) else st
/-- all feasible ways to go on from a choice, with the last m bids, in lexicographic order -/
def allc (l : List Bd) : Nat → List Nat → List (List Nat)
  | 0, _ => []
  | m + 1, ch => if conf l (l.length - (m + 1)) ch then allc l m ch else ((ch ++ [l.length - (m + 1)]) :: allc l m (ch ++ [l.length - (m + 1)])) ++ allc l m ch
/-- the search's loop, with m bids to come -/
def lp (l : List Bd) : Nat → Int → List Nat → (List Nat × Int) → (List Nat × Int)
  | 0, _, _, st => st
  | m + 1, v, ch, st => if st.2 < v + rest l (m + 1) then (if conf l (l.length - (m + 1)) ch then lp l m v ch st else
      lp l m v ch (lp l m (v + pr l (l.length - (m + 1))) (ch ++ [l.length - (m + 1)]) (if st.2 < v + pr l (l.length - (m + 1)) then (ch ++ [l.length - (m + 1)], v + pr l (l.length - (m + 1))) else st))) else st
def bestS (l : List Bd) : List Nat × Int := lp l l.length 0 [] ([], 0)

theorem rest_nn {l : List Bd} (hp : ∀ i, 0 ≤ pr l i) : ∀ m, 0 ≤ rest l m
  | 0 => Int.le_refl 0
  | m + 1 => by have := rest_nn hp m; have := hp (l.length - (m + 1)); simp only [rest]; omega
theorem allc_le {l : List Bd} (hp : ∀ i, 0 ≤ pr l i) : ∀ (m : Nat) (ch c : List Nat), c ∈ allc l m ch → val l c ≤ val l ch + rest l m
  | 0, _, _, h => absurd h (by simp [allc])
  | m + 1, ch, c, h => by
    have h0 := hp (l.length - (m + 1))
    have h1 := rest_nn hp m
    have e : val l (ch ++ [l.length - (m + 1)]) = val l ch + pr l (l.length - (m + 1)) := by rw [val_app]; simp [val]
    simp only [rest]
    unfold allc at h
    split at h
    · have := allc_le hp m ch c h; omega
    · rcases List.mem_append.1 h with h | h
      · rcases List.mem_cons.1 h with h | h
        · subst h; omega
        · have := allc_le hp m _ c h; omega
      · have := allc_le hp m ch c h; omega
theorem visit_none {l : List Bd} : ∀ {cs : List (List Nat)} {st : List Nat × Int}, (∀ c ∈ cs, val l c ≤ st.2) → cs.foldl (visit l) st = st
  | [], _, _ => rfl
  | c :: cs, st, h => by
    have h1 := h c (List.mem_cons_self)
    rw [List.foldl_cons, visit, if_neg (by omega)]
    exact visit_none fun c' hc => h c' (List.mem_cons_of_mem _ hc)
theorem lp_eq {l : List Bd} (hp : ∀ i, 0 ≤ pr l i) : ∀ (m : Nat) (v : Int) (ch : List Nat) (st : List Nat × Int), v = val l ch → lp l m v ch st = (allc l m ch).foldl (visit l) st
  | 0, _, _, _, _ => rfl
  | m + 1, v, ch, st, hv => by
    have e : val l (ch ++ [l.length - (m + 1)]) = v + pr l (l.length - (m + 1)) := by rw [val_app, hv]; simp [val]
    unfold lp
    split
    · unfold allc
      split
      · exact lp_eq hp m v ch st hv
      · rw [lp_eq hp m v ch _ hv, lp_eq hp m _ _ _ e.symm, List.cons_append, List.foldl_cons, List.foldl_append, visit, e]
    · rw [visit_none]
      intro c hc
      have := allc_le hp (m + 1) ch c hc
      omega

/-! lexicographic order -/
def lessN : List Nat → List Nat → Bool
  | _, [] => false
  | [], _ :: _ => true
  | a :: as, b :: bs => if a = b then lessN as bs else decide (a < b)
theorem lessN_irrefl : ∀ a, lessN a a = false
  | [] => rfl
  | a :: as => by simp [lessN, lessN_irrefl as]
theorem lessN_asymm : ∀ a b, lessN a b = true → lessN b a = false
  | [], [], h => by simp [lessN] at h
  | [], _ :: _, _ => by simp [lessN]
  | _ :: _, [], h => by simp [lessN] at h
  | a :: as, b :: bs, h => by
    unfold lessN at h ⊢
    split at h
    · rename_i e; subst e; rw [if_pos rfl]; exact lessN_asymm as bs h
    · rename_i e; rw [if_neg (fun e' => e e'.symm)]; simp at h ⊢; omega
theorem lessN_total : ∀ a b, a = b ∨ lessN a b = true ∨ lessN b a = true
  | [], [] => .inl rfl
  | [], _ :: _ => .inr (.inl rfl)
  | _ :: _, [] => .inr (.inr rfl)
  | a :: as, b :: bs => by
    by_cases e : a = b
    · subst e
      rcases lessN_total as bs with h | h | h
      · subst h; exact .inl rfl
      · exact .inr (.inl (by simp [lessN, h]))
      · exact .inr (.inr (by simp [lessN, h]))
    · rcases Nat.lt_or_gt_of_ne e with h | h
      · exact .inr (.inl (by simp [lessN, e, h]))
      · exact .inr (.inr (by unfold lessN; rw [if_neg (by omega)]; simp; omega))
theorem lessN_trans : ∀ a b c, lessN a b = true → lessN b c = true → lessN a c = true
  | [], [], _, h, _ => by simp [lessN] at h
  | _, _ :: _, [], _, h => by simp [lessN] at h
  | [], _ :: _, _ :: _, _, _ => rfl
  | _ :: _, [], _, h, _ => by simp [lessN] at h
  | a :: as, b :: bs, c :: cs, h, k => by
    unfold lessN at h k ⊢
    split at h
    · rename_i e; subst e
      split at k
      · rename_i e; subst e; rw [if_pos rfl]; exact lessN_trans as bs cs h k
      · rename_i e; rw [if_neg e]; exact k
    · rename_i e
      split at k
      · rename_i e'; subst e'; rw [if_neg e]; exact h
      · simp only [decide_eq_true_eq] at h k; rw [if_neg (by omega)]; simp; omega
theorem lessN_pre (p : List Nat) {a b : List Nat} (h : lessN a b = true) : lessN (p ++ a) (p ++ b) = true := by
  induction p with
  | nil => exact h
  | cons x p ih => simp [lessN, ih]

theorem allc_ext {l : List Bd} : ∀ (m : Nat) (ch c : List Nat), m ≤ l.length → c ∈ allc l m ch → ∃ j t, c = ch ++ j :: t ∧ l.length - m ≤ j ∧ j < l.length
  | 0, _, _, _, h => absurd h (by simp [allc])
  | m + 1, ch, c, hm, h => by
    unfold allc at h
    split at h
    · obtain ⟨j, t, e, h1, h2⟩ := allc_ext m ch c (by omega) h; exact ⟨j, t, e, by omega, h2⟩
    · rcases List.mem_append.1 h with h | h
      · rcases List.mem_cons.1 h with h | h
        · exact ⟨_, [], h, by omega, by omega⟩
        · obtain ⟨j, t, e, h1, h2⟩ := allc_ext m _ c (by omega) h; exact ⟨_, j :: t, by rw [e, List.append_assoc]; rfl, by omega, by omega⟩
      · obtain ⟨j, t, e, h1, h2⟩ := allc_ext m ch c (by omega) h; exact ⟨j, t, e, by omega, h2⟩
theorem allc_lex {l : List Bd} : ∀ (m : Nat) (ch : List Nat), m ≤ l.length → (allc l m ch).Pairwise fun a b => lessN a b = true
  | 0, _, _ => by simp [allc]
  | m + 1, ch, hm => by
    unfold allc
    split
    · exact allc_lex m ch (by omega)
    · have hx : ∀ c ∈ allc l m ch, ∃ j t, c = ch ++ j :: t ∧ l.length - m ≤ j := fun c hc => by obtain ⟨j, t, e, h1, _⟩ := allc_ext m ch c (by omega) hc; exact ⟨j, t, e, h1⟩
      rw [List.cons_append, List.pairwise_cons, List.pairwise_append]
      refine ⟨fun c hc => ?_, allc_lex m _ (by omega), allc_lex m ch (by omega), fun a ha b hb => ?_⟩
      · rcases List.mem_append.1 hc with h | h
        · obtain ⟨j, t, e, _, _⟩ := allc_ext m _ c (by omega) h
          rw [e, ← List.append_nil (ch ++ [l.length - (m + 1)]), List.append_assoc _ [] _]
          exact lessN_pre _ rfl
        · obtain ⟨j, t, e, h1⟩ := hx c h
          rw [e]
          exact lessN_pre _ (by unfold lessN; rw [if_neg (by omega)]; simp; omega)
      · obtain ⟨j, t, e, _, _⟩ := allc_ext m _ a (by omega) ha
        obtain ⟨j', t', e', h1⟩ := hx b hb
        rw [e, e', List.append_assoc]
        exact lessN_pre _ (by show lessN (_ :: _) _ = true; unfold lessN; rw [if_neg (by omega)]; simp; omega)

/-- a feasible choice: increasing indices of bids, no two in conflict -/
def feas (l : List Bd) (c : List Nat) : Prop := c.Pairwise (· < ·) ∧ (∀ i ∈ c, i < l.length) ∧ c.Pairwise fun i j => confl (l.getD i bd0) (l.getD j bd0) = false
theorem allc_mem {l : List Bd} : ∀ (m : Nat) (ch c : List Nat), m ≤ l.length → (c ∈ allc l m ch ↔ ∃ t, t ≠ [] ∧ c = ch ++ t ∧ t.Pairwise (· < ·) ∧ (∀ i ∈ t, l.length - m ≤ i ∧ i < l.length ∧ conf l i ch = false) ∧ t.Pairwise fun i j => confl (l.getD i bd0) (l.getD j bd0) = false)
  | 0, ch, c, _ => by
    simp only [allc, List.not_mem_nil, false_iff]
    rintro ⟨t, h1, _, _, h4, _⟩
    cases t with
    | nil => exact h1 rfl
    | cons x t => have := h4 x List.mem_cons_self; omega
  | m + 1, ch, c, hm => by
    have key : ∀ t : List Nat, t.Pairwise (· < ·) → (∀ i ∈ t, l.length - (m + 1) ≤ i ∧ i < l.length) → (∀ i ∈ t, l.length - m ≤ i) ∨ ∃ u, t = (l.length - (m + 1)) :: u ∧ ∀ i ∈ u, l.length - m ≤ i := fun t ht hr => by
      cases t with
      | nil => exact .inl (by simp)
      | cons x u =>
        have hx := hr x List.mem_cons_self
        rw [List.pairwise_cons] at ht
        by_cases e : x = l.length - (m + 1)
        · exact .inr ⟨u, by rw [e], fun i hi => by have := ht.1 i hi; omega⟩
        · refine .inl fun i hi => ?_
          rcases List.mem_cons.1 hi with h | h
          · omega
          · have := ht.1 i h; omega
    have confApp : ∀ i x, conf l i (ch ++ [x]) = (conf l i ch || confl (l.getD i bd0) (l.getD x bd0)) := fun i x => by simp [conf, List.any_append]
    unfold allc
    split
    · rename_i hc
      rw [allc_mem m ch c (by omega)]
      constructor
      · rintro ⟨t, h1, h2, h3, h4, h5⟩; exact ⟨t, h1, h2, h3, fun i hi => by have := h4 i hi; exact ⟨by omega, this.2⟩, h5⟩
      · rintro ⟨t, h1, h2, h3, h4, h5⟩
        refine ⟨t, h1, h2, h3, fun i hi => ⟨?_, (h4 i hi).2⟩, h5⟩
        rcases key t h3 (fun i hi => ⟨(h4 i hi).1, (h4 i hi).2.1⟩) with h | ⟨u, e, _⟩
        · exact h i hi
        · have := (h4 (l.length - (m + 1)) (by rw [e]; exact List.mem_cons_self)).2.2
          rw [hc] at this; exact absurd this (by simp)
    · rename_i hc
      simp only [Bool.not_eq_true] at hc
      rw [List.cons_append, List.mem_cons, List.mem_append, allc_mem m _ c (by omega), allc_mem m ch c (by omega)]
      constructor
      · rintro (h | ⟨t, h1, h2, h3, h4, h5⟩ | ⟨t, h1, h2, h3, h4, h5⟩)
        · exact ⟨[l.length - (m + 1)], by simp, h, by simp, fun i hi => by rw [List.mem_singleton] at hi; subst hi; exact ⟨Nat.le_refl _, by omega, hc⟩, by simp⟩
        · refine ⟨(l.length - (m + 1)) :: t, by simp, by rw [h2, List.append_assoc]; rfl, ?_, ?_, ?_⟩
          · rw [List.pairwise_cons]; exact ⟨fun i hi => by have := (h4 i hi).1; omega, h3⟩
          · intro i hi
            rcases List.mem_cons.1 hi with e | h
            · subst e; exact ⟨Nat.le_refl _, by omega, hc⟩
            · have := h4 i h; rw [confApp, Bool.or_eq_false_iff] at this; exact ⟨by omega, this.2.1, this.2.2.1⟩
          · rw [List.pairwise_cons]; exact ⟨fun i hi => by have := (h4 i hi).2.2; rw [confApp, Bool.or_eq_false_iff] at this; rw [confl_symm]; exact this.2, h5⟩
        · exact ⟨t, h1, h2, h3, fun i hi => by have := h4 i hi; exact ⟨by omega, this.2⟩, h5⟩
      · rintro ⟨t, h1, h2, h3, h4, h5⟩
        rcases key t h3 (fun i hi => ⟨(h4 i hi).1, (h4 i hi).2.1⟩) with h | ⟨u, e, hu⟩
        · exact .inr (.inr ⟨t, h1, h2, h3, fun i hi => ⟨h i hi, (h4 i hi).2⟩, h5⟩)
        · subst e
          rw [List.pairwise_cons] at h3 h5
          cases u with
          | nil => exact .inl h2
          | cons x u =>
            refine .inr (.inl ⟨x :: u, by simp, by rw [h2, List.append_assoc]; rfl, h3.2, fun i hi => ⟨hu i hi, (h4 i (List.mem_cons_of_mem _ hi)).2.1, ?_⟩, h5.2⟩)
            rw [confApp, Bool.or_eq_false_iff]
            exact ⟨(h4 i (List.mem_cons_of_mem _ hi)).2.2, by rw [confl_symm]; exact h5.1 i hi⟩
theorem allc_feas {l : List Bd} {c : List Nat} : c ∈ allc l l.length [] ↔ c ≠ [] ∧ feas l c := by
  rw [allc_mem _ _ _ (Nat.le_refl _)]
  constructor
  · rintro ⟨t, h1, h2, h3, h4, h5⟩
    rw [List.nil_append] at h2
    subst h2
    exact ⟨h1, h3, fun i hi => (h4 i hi).2.1, h5⟩
  · rintro ⟨h1, h3, h4, h5⟩
    exact ⟨c, h1, rfl, h3, fun i hi => ⟨by omega, h4 i hi, rfl⟩, h5⟩

/-- the best choice: the greatest value, and the first of these -/
def Opt (S : List Nat → Prop) (l : List Bd) (st : List Nat × Int) : Prop := S st.1 ∧ st.2 = val l st.1 ∧ ∀ c, S c → val l c < st.2 ∨ (val l c = st.2 ∧ (st.1 = c ∨ lessN st.1 c = true))
theorem Opt.unique {S : List Nat → Prop} {l : List Bd} {s t : List Nat × Int} (h : Opt S l s) (k : Opt S l t) : s = t := by
  obtain ⟨h1, h2, h3⟩ := h
  obtain ⟨k1, k2, k3⟩ := k
  have a := h3 _ k1
  have b := k3 _ h1
  have e : s.1 = t.1 := by
    rcases a with a | ⟨a, a'⟩
    · rcases b with b | ⟨b, b'⟩ <;> omega
    · rcases b with b | ⟨b, b'⟩
      · omega
      · rcases a' with a' | a'
        · exact a'
        · rcases b' with b' | b'
          · exact b'.symm
          · exact absurd (lessN_asymm _ _ a') (by rw [b']; simp)
  exact Prod.ext e (by rw [h2, k2, e])
theorem Opt.congr {S T : List Nat → Prop} {l : List Bd} {s : List Nat × Int} (h : Opt S l s) (e : ∀ c, S c ↔ T c) : Opt T l s := ⟨(e _).1 h.1, h.2.1, fun c hc => h.2.2 c ((e c).2 hc)⟩

theorem visits_opt {l : List Bd} : ∀ (cs : List (List Nat)) (S : List Nat → Prop) (st : List Nat × Int), Opt S l st → (cs.Pairwise fun a b => lessN a b = true) → (∀ a, S a → ∀ c ∈ cs, lessN a c = true) → Opt (fun c => S c ∨ c ∈ cs) l (cs.foldl (visit l) st)
  | [], S, st, h, _, _ => h.congr fun c => by simp
  | x :: cs, S, st, h, hp, hx => by
    rw [List.foldl_cons]
    rw [List.pairwise_cons] at hp
    have h1 : Opt (fun c => S c ∨ c = x) l (visit l st x) := by
      obtain ⟨a, b, c⟩ := h
      unfold visit
      split
      · refine ⟨.inr rfl, rfl, fun c' hc' => ?_⟩
        rcases hc' with hc' | hc'
        · rcases c c' hc' with h | h <;> exact .inl (by simp only; omega)
        · exact .inr ⟨by rw [hc'], .inl hc'.symm⟩
      · refine ⟨.inl a, b, fun c' hc' => ?_⟩
        rcases hc' with hc' | hc'
        · exact c c' hc'
        · subst hc'
          by_cases e : val l c' < st.2
          · exact .inl e
          · exact .inr ⟨by omega, .inr (hx _ a _ List.mem_cons_self)⟩
    refine (visits_opt cs _ _ h1 hp.2 ?_).congr fun c => ?_
    · rintro a (h | h) c hc
      · exact hx a h c (List.mem_cons_of_mem _ hc)
      · subst h; exact hp.1 c hc
    · rw [List.mem_cons, or_assoc]
theorem feas_nil (l : List Bd) : feas l [] := ⟨List.Pairwise.nil, by simp, List.Pairwise.nil⟩
theorem bestS_opt {l : List Bd} (hp : ∀ i, 0 ≤ pr l i) : Opt (feas l) l (bestS l) := by
  rw [bestS, lp_eq hp _ 0 [] _ rfl]
  refine (visits_opt (allc l l.length []) (fun c => c = []) ([], 0) ⟨rfl, rfl, fun c hc => .inr ⟨by rw [hc]; rfl, .inl hc.symm⟩⟩ (allc_lex _ _ (Nat.le_refl _)) ?_).congr ?_
  · rintro a rfl c hc
    obtain ⟨j, t, e, _⟩ := allc_ext _ _ _ (Nat.le_refl _) hc
    rw [e]; rfl
  · intro c
    rw [allc_feas]
    constructor
    · rintro (h | h)
      · subst h; exact feas_nil l
      · exact h.2
    · intro h
      by_cases e : c = []
      · exact .inl e
      · exact .inr ⟨e, h⟩
end Go.Proofs.Ytpbkfpkgbfifaaa
