/- Lemmas of the claim, joined: TA TB QA. No condition. -/
import Derived.Below
namespace Go.Proofs.YtmeplpiamkaniaaGreat
set_option linter.unusedVariables false
set_option linter.unusedSimpArgs false
abbrev Lt := Int × Int × Int
abbrev Un := Int × Int
def unitsOf (f a : Int) : Nat → List Un
  | 0 => []
  | n + 1 => (f, a) :: unitsOf f (a + 1) n
def ul (x : Lt) : List Un := unitsOf x.1 x.2.1 x.2.2.toNat
def U (l : List Lt) : List Un := l.flatMap ul
theorem U_nil : U [] = [] := rfl
theorem U_cons (x : Lt) (l : List Lt) : U (x :: l) = ul x ++ U l := rfl
theorem U_app (a b : List Lt) : U (a ++ b) = U a ++ U b := List.flatMap_append
theorem U_one (x : Lt) : U [x] = ul x := by simp [U]
theorem unitsOf_len (f a : Int) (n : Nat) : (unitsOf f a n).length = n := by
  induction n generalizing a with
  | zero => rfl
  | succ n ih => rw [unitsOf, List.length_cons, ih]
theorem unitsOf_add (f a : Int) (m n : Nat) : unitsOf f a (m + n) = unitsOf f a m ++ unitsOf f (a + m) n := by
  induction m generalizing a with
  | zero => simp [unitsOf]
  | succ m ih =>
    rw [show m + 1 + n = (m + n) + 1 by omega, unitsOf, ih, unitsOf, List.cons_append, show a + ((m + 1 : Nat) : Int) = a + 1 + (m : Int) by omega]
theorem mem_unitsOf {f a : Int} {n : Nat} {u : Un} : u ∈ unitsOf f a n ↔ u.1 = f ∧ a ≤ u.2 ∧ u.2 < a + n := by
  induction n generalizing a with
  | zero => simp [unitsOf]
  | succ n ih =>
    obtain ⟨g, v⟩ := u
    rw [unitsOf, List.mem_cons, ih]
    simp only [Prod.mk.injEq]
    omega
theorem ul_len (x : Lt) : (ul x).length = x.2.2.toNat := unitsOf_len _ _ _
theorem mem_ul {x : Lt} {u : Un} : u ∈ ul x ↔ u.1 = x.1 ∧ x.2.1 ≤ u.2 ∧ u.2 < x.2.1 + x.2.2 := by
  unfold ul
  rw [mem_unitsOf]
  omega
theorem ul_cut {f a n k : Int} (h0 : 0 ≤ k) (h1 : k ≤ n) : ul (f, a, n) = ul (f, a, k) ++ ul (f, a + k, n - k) := by
  unfold ul
  simp only
  rw [show n.toNat = k.toNat + (n - k).toNat by omega, unitsOf_add, show ((k.toNat : Nat) : Int) = k by omega]
theorem ul_none {x : Lt} (h : x.2.2 ≤ 0) : ul x = [] := by
  have := ul_len x
  exact List.eq_nil_of_length_eq_zero (by omega)
theorem ul_head {x : Lt} (h : 1 ≤ x.2.2) : ul x = (x.1, x.2.1) :: ul (x.1, x.2.1 + 1, x.2.2 - 1) := by
  unfold ul
  simp only
  rw [show x.2.2.toNat = (x.2.2 - 1).toNat + 1 by omega, unitsOf]
theorem mem_U {l : List Lt} {u : Un} : u ∈ U l ↔ ∃ x ∈ l, u ∈ ul x := by simp [U]
def totL (l : List Lt) : Int := (l.map fun x => x.2.2).sum
theorem totL_nil : totL [] = 0 := rfl
theorem totL_cons (x : Lt) (l : List Lt) : totL (x :: l) = x.2.2 + totL l := by simp [totL]
theorem totL_app (a b : List Lt) : totL (a ++ b) = totL a + totL b := by simp [totL]
theorem U_len {l : List Lt} (h : ∀ x ∈ l, 0 ≤ x.2.2) : ((U l).length : Int) = totL l := by
  induction l with
  | nil => rfl
  | cons x l ih =>
    have := ih fun y hy => h y (List.mem_cons_of_mem _ hy)
    have := h x List.mem_cons_self
    rw [U_cons, List.length_append, ul_len, totL_cons]
    omega
def contB (p x : Lt) : Bool := decide (p.1 = x.1) && decide (p.2.1 + p.2.2 = x.2.1)
theorem contB_iff {p x : Lt} : contB p x = true ↔ p.1 = x.1 ∧ p.2.1 + p.2.2 = x.2.1 := by simp [contB]
def addL (s : List Lt) (x : Lt) : List Lt :=
  if x.2.2 = 0 then s else
    match s.getLast? with
    | some p => if contB p x then s.dropLast ++ [(p.1, p.2.1, p.2.2 + x.2.2)] else s ++ [x]
    | none => [x]
theorem addL_zero {s : List Lt} {x : Lt} (h : x.2.2 = 0) : addL s x = s := by rw [addL, if_pos h]
theorem addL_nil {x : Lt} (h : x.2.2 ≠ 0) : addL [] x = [x] := by rw [addL, if_neg h]; rfl
theorem addL_join {s : List Lt} {p x : Lt} (h : x.2.2 ≠ 0) (hc : contB p x = true) : addL (s ++ [p]) x = s ++ [(p.1, p.2.1, p.2.2 + x.2.2)] := by
  rw [addL, if_neg h, List.getLast?_concat]
  simp only [hc, if_true, List.dropLast_concat]
theorem addL_new {s : List Lt} {p x : Lt} (h : x.2.2 ≠ 0) (hc : contB p x = false) : addL (s ++ [p]) x = s ++ [p] ++ [x] := by
  rw [addL, if_neg h, List.getLast?_concat]
  simp only [hc, Bool.false_eq_true, if_false]
theorem snoc_cases {α : Type} (l : List α) : l = [] ∨ ∃ s p, l = s ++ [p] := by
  rcases List.eq_nil_or_concat l with h | ⟨s, p, h⟩
  · exact .inl h
  · exact .inr ⟨s, p, by rw [h, List.concat_eq_append]⟩
def Glued : List Lt → Prop
  | [] => True
  | [x] => 1 ≤ x.2.2
  | x :: y :: l => 1 ≤ x.2.2 ∧ contB x y = false ∧ Glued (y :: l)
theorem Glued.tail {x : Lt} {l : List Lt} (h : Glued (x :: l)) : Glued l := by
  cases l with
  | nil => trivial
  | cons y l => exact h.2.2
theorem Glued.pos {x : Lt} {l : List Lt} (h : Glued (x :: l)) : 1 ≤ x.2.2 := by
  cases l with
  | nil => exact h
  | cons y l => exact h.1
theorem Glued.mem {l : List Lt} (h : Glued l) : ∀ x ∈ l, 1 ≤ x.2.2 := by
  induction l with
  | nil => simp
  | cons a l ih =>
    intro x hx
    rcases List.mem_cons.1 hx with rfl | hx
    · exact h.pos
    · exact ih h.tail x hx
theorem glued_snoc {s : List Lt} {p : Lt} : Glued (s ++ [p]) ↔ Glued s ∧ 1 ≤ p.2.2 ∧ ∀ q, s.getLast? = some q → contB q p = false := by
  induction s with
  | nil => simp [Glued]
  | cons a s ih =>
    cases s with
    | nil =>
      show (1 ≤ a.2.2 ∧ contB a p = false ∧ 1 ≤ p.2.2) ↔ 1 ≤ a.2.2 ∧ 1 ≤ p.2.2 ∧ ∀ q, [a].getLast? = some q → contB q p = false
      have e : [a].getLast? = some a := rfl
      rw [e]
      constructor
      · rintro ⟨h1, h2, h3⟩; exact ⟨h1, h3, fun q hq => by injection hq with hq; subst hq; exact h2⟩
      · rintro ⟨h1, h3, h2⟩; exact ⟨h1, h2 a rfl, h3⟩
    | cons b s =>
      have e1 : (a :: b :: s).getLast? = (b :: s).getLast? := by simp [List.getLast?_cons]
      show (1 ≤ a.2.2 ∧ contB a b = false ∧ Glued (b :: s ++ [p])) ↔ (1 ≤ a.2.2 ∧ contB a b = false ∧ Glued (b :: s)) ∧ _
      rw [ih, e1]
      constructor
      · rintro ⟨h1, h2, h3, h4⟩; exact ⟨⟨h1, h2, h3⟩, h4⟩
      · rintro ⟨⟨h1, h2, h3⟩, h4⟩; exact ⟨h1, h2, h3, h4⟩
theorem glued_wide {s : List Lt} {p p' : Lt} (h : Glued (s ++ [p])) (h1 : p'.1 = p.1) (h2 : p'.2.1 = p.2.1) (h3 : 1 ≤ p'.2.2) : Glued (s ++ [p']) := by
  rw [glued_snoc] at h ⊢
  refine ⟨h.1, h3, fun q hq => ?_⟩
  have := h.2.2 q hq
  unfold contB at *
  rw [h1, h2]; exact this
theorem glued_add {s : List Lt} {x : Lt} (h : Glued s) (hx : 0 ≤ x.2.2) : Glued (addL s x) := by
  by_cases h0 : x.2.2 = 0
  · rw [addL_zero h0]; exact h
  · rcases snoc_cases s with rfl | ⟨t, p, rfl⟩
    · rw [addL_nil h0]; show 1 ≤ x.2.2; omega
    · by_cases hc : contB p x = true
      · rw [addL_join h0 hc]
        have := h.mem p (by simp)
        exact glued_wide h rfl rfl (by show 1 ≤ p.2.2 + x.2.2; omega)
      · have hc : contB p x = false := by simpa using hc
        rw [addL_new h0 hc, glued_snoc]
        refine ⟨h, by omega, fun q hq => ?_⟩
        rw [List.getLast?_concat] at hq
        injection hq with hq
        subst hq; exact hc
theorem U_add {s : List Lt} {x : Lt} (h : ∀ y ∈ s, 0 ≤ y.2.2) (hx : 0 ≤ x.2.2) : U (addL s x) = U s ++ ul x := by
  by_cases h0 : x.2.2 = 0
  · rw [addL_zero h0, ul_none (by omega), List.append_nil]
  · rcases snoc_cases s with rfl | ⟨t, p, rfl⟩
    · rw [addL_nil h0, U_one]; rfl
    · by_cases hc : contB p x = true
      · rw [addL_join h0 hc, U_app, U_app, U_one, U_one, List.append_assoc]
        congr 1
        have hp := h p (by simp)
        obtain ⟨e1, e2⟩ := contB_iff.1 hc
        obtain ⟨f, a, n⟩ := p
        obtain ⟨g, b, m⟩ := x
        simp only at *
        subst e1 e2
        rw [ul_cut (n := n + m) (k := n) hp (by omega), show n + m - n = m by omega]
      · have hc : contB p x = false := by simpa using hc
        rw [addL_new h0 hc, U_app, U_one]
theorem glued_same_first {x y : Lt} {s t : List Lt} (hs : Glued (x :: s)) (ht : Glued (y :: t)) (h : U (x :: s) = U (y :: t)) : x.1 = y.1 ∧ x.2.1 = y.2.1 := by
  rw [U_cons, U_cons, ul_head hs.pos, ul_head ht.pos] at h
  simp only [List.cons_append, List.cons.injEq, Prod.mk.injEq] at h
  exact ⟨h.1.1, h.1.2⟩
theorem glued_not_less {x y : Lt} {s t : List Lt} (hs : Glued (x :: s)) (ht : Glued (y :: t)) (h : U (x :: s) = U (y :: t)) : ¬ x.2.2 < y.2.2 := by
  intro hlt
  obtain ⟨e1, e2⟩ := glued_same_first hs ht h
  have hx := hs.pos
  obtain ⟨f, a, n⟩ := x
  obtain ⟨g, b, m⟩ := y
  simp only at *
  subst e1 e2
  rw [U_cons, U_cons, ul_cut (n := m) (k := n) (by omega) (by omega), List.append_assoc] at h
  have h := List.append_cancel_left h
  rw [ul_head (by show 1 ≤ m - n; omega)] at h
  cases s with
  | nil => rw [U_nil] at h; cases h
  | cons z s =>
    rw [U_cons, ul_head hs.tail.pos] at h
    simp only [List.cons_append, List.cons.injEq, Prod.mk.injEq] at h
    have hc : contB (f, a, n) z = false := hs.2.1
    have : contB (f, a, n) z = true := contB_iff.2 ⟨h.1.1.symm, h.1.2.symm⟩
    rw [this] at hc; cases hc
theorem glued_unique : ∀ {s t : List Lt}, Glued s → Glued t → U s = U t → s = t
  | [], [], _, _, _ => rfl
  | [], y :: t, _, ht, h => by rw [U_nil, U_cons, ul_head ht.pos] at h; cases h
  | x :: s, [], hs, _, h => by rw [U_nil, U_cons, ul_head hs.pos] at h; cases h
  | x :: s, y :: t, hs, ht, h => by
    obtain ⟨e1, e2⟩ := glued_same_first hs ht h
    have h1 := glued_not_less hs ht h
    have h2 := glued_not_less ht hs h.symm
    have e3 : x.2.2 = y.2.2 := by omega
    have e : x = y := Prod.ext e1 (Prod.ext e2 e3)
    subst e
    rw [U_cons, U_cons] at h
    rw [glued_unique hs.tail ht.tail (List.append_cancel_left h)]
def putL (s l : List Lt) : List Lt := l.foldl addL s
theorem putL_cons (s : List Lt) (x : Lt) (l : List Lt) : putL s (x :: l) = putL (addL s x) l := rfl
theorem putL_app (s a b : List Lt) : putL s (a ++ b) = putL (putL s a) b := List.foldl_append
theorem putL_snoc (s a : List Lt) (x : Lt) : putL s (a ++ [x]) = addL (putL s a) x := by rw [putL_app]; rfl
theorem putL_glued {s l : List Lt} (h : Glued s) (hl : ∀ x ∈ l, 0 ≤ x.2.2) : Glued (putL s l) ∧ U (putL s l) = U s ++ U l := by
  induction l generalizing s with
  | nil => exact ⟨h, by simp [putL, U_nil]⟩
  | cons x l ih =>
    have hx := hl x List.mem_cons_self
    obtain ⟨h1, h2⟩ := ih (glued_add h hx) fun y hy => hl y (List.mem_cons_of_mem _ hy)
    refine ⟨h1, ?_⟩
    rw [putL_cons, h2, U_add (fun y hy => by have := h.mem y hy; omega) hx, U_cons, List.append_assoc]
def glue (us : List Un) : List Lt := putL [] (us.map fun u => (u.1, u.2, 1))
theorem U_singles (us : List Un) : U (us.map fun u => ((u.1, u.2, 1) : Lt)) = us := by
  induction us with
  | nil => rfl
  | cons u us ih => rw [List.map_cons, U_cons, ih]; rfl
theorem glue_glued (us : List Un) : Glued (glue us) := (putL_glued (s := []) trivial (by intro x hx; obtain ⟨u, _, rfl⟩ := List.mem_map.1 hx; show (0 : Int) ≤ 1; omega)).1
theorem U_glue (us : List Un) : U (glue us) = us := by
  have h := (putL_glued (s := []) (l := us.map fun u => (u.1, u.2, 1)) trivial (by intro x hx; obtain ⟨u, _, rfl⟩ := List.mem_map.1 hx; show (0 : Int) ≤ 1; omega)).2
  rw [U_singles, U_nil, List.nil_append] at h
  exact h
theorem glued_eq {s : List Lt} {us : List Un} (h : Glued s) (e : U s = us) : s = glue us := glued_unique h (glue_glued us) (e.trans (U_glue us).symm)
theorem putL_eq {s l : List Lt} (h : Glued s) (hl : ∀ x ∈ l, 0 ≤ x.2.2) : putL s l = glue (U s ++ U l) := by
  obtain ⟨h1, h2⟩ := putL_glued h hl
  exact glued_eq h1 h2
theorem putN_eq {l : List Lt} (hl : ∀ x ∈ l, 0 ≤ x.2.2) : putL [] l = glue (U l) := putL_eq (s := []) trivial hl
theorem add_glue {us : List Un} {x : Lt} (hx : 0 ≤ x.2.2) : addL (glue us) x = glue (us ++ ul x) := by
  refine glued_eq (glued_add (glue_glued us) hx) ?_
  rw [U_add (fun y hy => by have := (glue_glued us).mem y hy; omega) hx, U_glue]
def possB (x : Lt) : Bool := decide (0 ≤ x.1) && (decide (0 ≤ x.2.1) && (decide (x.2.1 ≤ 1099511627776) && (decide (1 ≤ x.2.2) && decide (x.2.2 ≤ 1099511627776 - x.2.1))))
theorem possB_iff {x : Lt} : possB x = true ↔ 0 ≤ x.1 ∧ 0 ≤ x.2.1 ∧ x.2.1 ≤ 1099511627776 ∧ 1 ≤ x.2.2 ∧ x.2.2 ≤ 1099511627776 - x.2.1 := by simp [possB]
def validB (l : List Lt) : Bool := decide (l.length ≤ 4096) && l.all possB
theorem validB_iff {l : List Lt} : validB l = true ↔ l.length ≤ 4096 ∧ ∀ x ∈ l, possB x = true := by simp [validB]
def totalS (l : List Lt) : Int := if validB l then totL l else 0
theorem poss_join {p x : Lt} (hp : possB p = true) (hx : possB x = true) (hc : contB p x = true) : possB (p.1, p.2.1, p.2.2 + x.2.2) = true := by
  rw [possB_iff] at *
  rw [contB_iff] at hc
  simp only
  omega
theorem poss_add {s : List Lt} {x : Lt} (hs : ∀ y ∈ s, possB y = true) (hx : x.2.2 ≠ 0 → possB x = true) : ∀ y ∈ addL s x, possB y = true := by
  by_cases h0 : x.2.2 = 0
  · rw [addL_zero h0]; exact hs
  · have hx := hx h0
    rcases snoc_cases s with rfl | ⟨t, p, rfl⟩
    · rw [addL_nil h0]; intro y hy; rw [List.mem_singleton] at hy; subst hy; exact hx
    · by_cases hc : contB p x = true
      · rw [addL_join h0 hc]
        intro y hy
        rcases List.mem_append.1 hy with hy | hy
        · exact hs y (List.mem_append_left _ hy)
        · rw [List.mem_singleton] at hy; subst hy; exact poss_join (hs p (by simp)) hx hc
      · have hc : contB p x = false := by simpa using hc
        rw [addL_new h0 hc]
        intro y hy
        rcases List.mem_append.1 hy with hy | hy
        · exact hs y hy
        · rw [List.mem_singleton] at hy; subst hy; exact hx
theorem add_len (s : List Lt) (x : Lt) : (addL s x).length ≤ s.length + 1 := by
  by_cases h0 : x.2.2 = 0
  · rw [addL_zero h0]; omega
  · rcases snoc_cases s with rfl | ⟨t, p, rfl⟩
    · rw [addL_nil h0]; simp
    · by_cases hc : contB p x = true
      · rw [addL_join h0 hc]; simp
      · have hc : contB p x = false := by simpa using hc
        rw [addL_new h0 hc]; simp
theorem totL_le {l : List Lt} (h : ∀ x ∈ l, possB x = true) : 0 ≤ totL l ∧ totL l ≤ 1099511627776 * (l.length : Int) := by
  induction l with
  | nil => simp [totL]
  | cons x l ih =>
    have h1 := ih fun y hy => h y (List.mem_cons_of_mem _ hy)
    have h2 := possB_iff.1 (h x List.mem_cons_self)
    rw [totL_cons, List.length_cons]
    omega
end Go.Proofs.YtmeplpiamkaniaaGreat
namespace Go.Proofs.YtmeplpiamkaniaaGreat
set_option linter.unusedVariables false
set_option linter.unusedSimpArgs false
def ltU (u v : Un) : Prop := u.1 < v.1 ∨ (u.1 = v.1 ∧ u.2 < v.2)
theorem ltU_irrefl (u : Un) : ¬ ltU u u := by unfold ltU; omega
theorem ltU_asymm {u v : Un} (h : ltU u v) : ¬ ltU v u := by unfold ltU at *; omega
theorem ltU_trans {u v x : Un} (h : ltU u v) (k : ltU v x) : ltU u x := by unfold ltU at *; omega
theorem ltU_total {u v : Un} (h : ¬ ltU u v) (h2 : ¬ ltU v u) : u = v := by
  unfold ltU at *
  exact Prod.ext (by omega) (by omega)
def Srt (l : List Un) : Prop := l.Pairwise ltU
theorem srt_ext : ∀ {a b : List Un}, Srt a → Srt b → (∀ u, u ∈ a ↔ u ∈ b) → a = b
  | [], [], _, _, _ => rfl
  | [], y :: b, _, _, h => by have := (h y).2 List.mem_cons_self; cases this
  | x :: a, [], _, _, h => by have := (h x).1 List.mem_cons_self; cases this
  | x :: a, y :: b, ha, hb, h => by
    have ha' := List.pairwise_cons.1 ha
    have hb' := List.pairwise_cons.1 hb
    have e : x = y := by
      rcases List.mem_cons.1 ((h x).1 List.mem_cons_self) with e | e
      · exact e
      · rcases List.mem_cons.1 ((h y).2 List.mem_cons_self) with e2 | e2
        · exact e2.symm
        · exact absurd (hb'.1 x e) (ltU_asymm (ha'.1 y e2))
    subst e
    rw [srt_ext ha'.2 hb'.2 fun u => ?_]
    constructor
    · intro hu
      rcases List.mem_cons.1 ((h u).1 (List.mem_cons_of_mem _ hu)) with e | e
      · subst e; exact absurd (ha'.1 u hu) (ltU_irrefl u)
      · exact e
    · intro hu
      rcases List.mem_cons.1 ((h u).2 (List.mem_cons_of_mem _ hu)) with e | e
      · subst e; exact absurd (hb'.1 u hu) (ltU_irrefl u)
      · exact e
instance (u v : Un) : Decidable (ltU u v) := by unfold ltU; infer_instance
def insU (u : Un) : List Un → List Un
  | [] => [u]
  | v :: l => if ltU u v then u :: v :: l else if ltU v u then v :: insU u l else v :: l
theorem mem_insU {u x : Un} {l : List Un} : x ∈ insU u l ↔ x = u ∨ x ∈ l := by
  induction l with
  | nil => simp [insU]
  | cons v l ih =>
    rw [insU]
    by_cases h1 : ltU u v
    · rw [if_pos h1]; simp
    · rw [if_neg h1]
      by_cases h2 : ltU v u
      · rw [if_pos h2]
        simp only [List.mem_cons, ih]
        constructor
        · rintro (h | h | h) <;> simp [h]
        · rintro (h | h | h) <;> simp [h]
      · rw [if_neg h2]
        have := ltU_total h1 h2
        subst this
        simp
theorem srt_insU {u : Un} {l : List Un} (h : Srt l) : Srt (insU u l) := by
  induction l with
  | nil => simp [insU, Srt]
  | cons v l ih =>
    have h' := List.pairwise_cons.1 h
    rw [insU]
    by_cases h1 : ltU u v
    · rw [if_pos h1]
      refine List.pairwise_cons.2 ⟨fun x hx => ?_, h⟩
      rcases List.mem_cons.1 hx with rfl | hx
      · exact h1
      · exact ltU_trans h1 (h'.1 x hx)
    · rw [if_neg h1]
      by_cases h2 : ltU v u
      · rw [if_pos h2]
        refine List.pairwise_cons.2 ⟨fun x hx => ?_, ih h'.2⟩
        rcases mem_insU.1 hx with rfl | hx
        · exact h2
        · exact h'.1 x hx
      · rw [if_neg h2]; exact h
def sortU (l : List Un) : List Un := l.foldr insU []
theorem mem_sortU {x : Un} {l : List Un} : x ∈ sortU l ↔ x ∈ l := by
  induction l with
  | nil => simp [sortU]
  | cons u l ih =>
    show x ∈ insU u (sortU l) ↔ _
    rw [mem_insU, ih, List.mem_cons]
theorem srt_sortU (l : List Un) : Srt (sortU l) := by
  induction l with
  | nil => exact List.Pairwise.nil
  | cons u l ih => exact srt_insU ih
def setS (l : List Lt) : List Lt := glue (sortU (U l))
theorem U_setS (l : List Lt) : U (setS l) = sortU (U l) := U_glue _
theorem mem_setS {l : List Lt} {u : Un} : u ∈ U (setS l) ↔ u ∈ U l := by rw [U_setS, mem_sortU]
theorem srt_setS (l : List Lt) : Srt (U (setS l)) := by rw [U_setS]; exact srt_sortU _
def gapL (p x : Lt) : Prop := p.1 < x.1 ∨ (p.1 = x.1 ∧ p.2.1 + p.2.2 < x.2.1)
structure Canon (s : List Lt) : Prop where
  pos : ∀ x ∈ s, 1 ≤ x.2.2
  gap : s.Pairwise gapL
theorem Canon.nil : Canon [] := ⟨by simp, List.Pairwise.nil⟩
theorem gap_lt {p x : Lt} (h : gapL p x) {u v : Un} (hu : u ∈ ul p) (hv : v ∈ ul x) : ltU u v := by
  have h1 := mem_ul.1 hu
  have h2 := mem_ul.1 hv
  unfold gapL at h
  unfold ltU
  omega
theorem gap_trans {p q x : Lt} (h : gapL p q) (hq : 1 ≤ q.2.2) (k : gapL q x) : gapL p x := by unfold gapL at *; omega
theorem gap_cont {p x : Lt} (h : gapL p x) : contB p x = false := by
  rw [Bool.eq_false_iff, ne_eq, contB_iff]
  unfold gapL at h
  omega
theorem srt_units (f a : Int) (n : Nat) : Srt (unitsOf f a n) := by
  induction n generalizing a with
  | zero => exact List.Pairwise.nil
  | succ n ih =>
    refine List.pairwise_cons.2 ⟨fun u hu => ?_, ih _⟩
    have := mem_unitsOf.1 hu
    unfold ltU
    simp only
    omega
theorem Canon.tail {x : Lt} {s : List Lt} (h : Canon (x :: s)) : Canon s := ⟨fun y hy => h.pos y (List.mem_cons_of_mem _ hy), (List.pairwise_cons.1 h.gap).2⟩
theorem Canon.glued : ∀ {s : List Lt}, Canon s → Glued s
  | [], _ => trivial
  | [x], h => h.pos x (by simp)
  | x :: y :: s, h => ⟨h.pos x (by simp), gap_cont ((List.pairwise_cons.1 h.gap).1 y (by simp)), Canon.glued h.tail⟩
theorem Canon.srt {s : List Lt} (h : Canon s) : Srt (U s) := by
  induction s with
  | nil => exact List.Pairwise.nil
  | cons x s ih =>
    rw [U_cons]
    refine List.pairwise_append.2 ⟨srt_units _ _ _, ih h.tail, fun u hu v hv => ?_⟩
    obtain ⟨y, hy, hv⟩ := mem_U.1 hv
    exact gap_lt ((List.pairwise_cons.1 h.gap).1 y hy) hu hv
theorem Canon.eq_set {s l : List Lt} (h : Canon s) (e : ∀ u, u ∈ U s ↔ u ∈ U l) : s = setS l :=
  glued_eq h.glued (srt_ext h.srt (srt_sortU _) fun u => by rw [e, mem_sortU])
theorem canon_snoc {s : List Lt} {x : Lt} : Canon (s ++ [x]) ↔ Canon s ∧ 1 ≤ x.2.2 ∧ ∀ p ∈ s, gapL p x := by
  constructor
  · intro h
    obtain ⟨h1, h2, h3⟩ := List.pairwise_append.1 h.gap
    exact ⟨⟨fun y hy => h.pos y (List.mem_append_left _ hy), h1⟩, h.pos x (by simp), fun p hp => h3 p hp x (by simp)⟩
  · rintro ⟨h1, h2, h3⟩
    refine ⟨fun y hy => ?_, List.pairwise_append.2 ⟨h1.gap, by simp, fun p hp y hy => ?_⟩⟩
    · rcases List.mem_append.1 hy with hy | hy
      · exact h1.pos y hy
      · rw [List.mem_singleton] at hy; subst hy; exact h2
    · rw [List.mem_singleton] at hy; subst hy; exact h3 p hp
theorem canon_new {s : List Lt} {p x : Lt} (h : Canon (s ++ [p])) (hx : 1 ≤ x.2.2) (hg : gapL p x) : Canon (s ++ [p] ++ [x]) := by
  refine canon_snoc.2 ⟨h, hx, fun q hq => ?_⟩
  rcases List.mem_append.1 hq with hq | hq
  · exact gap_trans ((canon_snoc.1 h).2.2 q hq) (canon_snoc.1 h).2.1 hg
  · rw [List.mem_singleton] at hq; subst hq; exact hg
theorem canon_one {x : Lt} (hx : 1 ≤ x.2.2) : Canon [x] := ⟨by intro y hy; rw [List.mem_singleton] at hy; subst hy; exact hx, by simp⟩
theorem canon_wide {s : List Lt} {p p' : Lt} (h : Canon (s ++ [p])) (h1 : p'.1 = p.1) (h2 : p'.2.1 = p.2.1) (h3 : 1 ≤ p'.2.2) : Canon (s ++ [p']) := by
  obtain ⟨c1, c2, c3⟩ := canon_snoc.1 h
  refine canon_snoc.2 ⟨c1, h3, fun q hq => ?_⟩
  have := c3 q hq
  unfold gapL at *
  rw [h1, h2]; exact this
def hasB (l : List Lt) (u : Un) : Bool := l.any fun x => decide (x.1 = u.1) && (decide (x.2.1 ≤ u.2) && decide (u.2 < x.2.1 + x.2.2))
theorem hasB_iff {l : List Lt} {u : Un} : hasB l u = true ↔ u ∈ U l := by
  rw [hasB, List.any_eq_true, mem_U]
  constructor
  · rintro ⟨x, hx, h⟩
    refine ⟨x, hx, mem_ul.2 ?_⟩
    simp only [Bool.and_eq_true, decide_eq_true_eq] at h
    omega
  · rintro ⟨x, hx, h⟩
    have h := mem_ul.1 h
    refine ⟨x, hx, ?_⟩
    simp only [Bool.and_eq_true, decide_eq_true_eq]
    omega
theorem hasB_congr {a b : List Lt} (h : ∀ u, u ∈ U a ↔ u ∈ U b) : hasB a = hasB b := by
  funext u
  rw [Bool.eq_iff_iff, hasB_iff, hasB_iff, h]
theorem hasB_set (l : List Lt) : hasB (setS l) = hasB l := hasB_congr fun _ => mem_setS
def inU (s : List Lt) (us : List Un) : List Un := us.filter (hasB s)
def outU (s : List Lt) (us : List Un) : List Un := us.filter fun u => !hasB s u
theorem mem_inU {s : List Lt} {us : List Un} {u : Un} : u ∈ inU s us ↔ u ∈ us ∧ u ∈ U s := by rw [inU, List.mem_filter, hasB_iff]
theorem inU_app (s : List Lt) (a b : List Un) : inU s (a ++ b) = inU s a ++ inU s b := List.filter_append ..
theorem outU_app (s : List Lt) (a b : List Un) : outU s (a ++ b) = outU s a ++ outU s b := List.filter_append ..
theorem inU_all {s : List Lt} {us : List Un} (h : ∀ u ∈ us, u ∈ U s) : inU s us = us ∧ outU s us = [] := by
  refine ⟨List.filter_eq_self.2 fun u hu => hasB_iff.2 (h u hu), ?_⟩
  rw [outU, List.filter_eq_nil_iff]
  intro u hu
  simp [hasB_iff.2 (h u hu)]
theorem outU_all {s : List Lt} {us : List Un} (h : ∀ u ∈ us, ¬ u ∈ U s) : inU s us = [] ∧ outU s us = us := by
  have h' : ∀ u ∈ us, hasB s u = false := fun u hu => by
    rw [Bool.eq_false_iff, ne_eq, hasB_iff]; exact h u hu
  refine ⟨?_, List.filter_eq_self.2 fun u hu => by simp [h' u hu]⟩
  rw [inU, List.filter_eq_nil_iff]
  intro u hu
  simp [h' u hu]
theorem inU_congr {a b : List Lt} (h : ∀ u, u ∈ U a ↔ u ∈ U b) (us : List Un) : inU a us = inU b us := by rw [inU, inU, hasB_congr h]
theorem srt_inU {s : List Lt} {us : List Un} (h : Srt us) : Srt (inU s us) := List.Pairwise.filter _ h
def lset (l : List Lt) : List Lt := if validB l then setS l else []
def lunion (a b : List Lt) : List Lt := if validB a && validB b then setS (a ++ b) else []
def lmeet (a b : List Lt) : List Lt := if validB a && validB b then glue (inU b (U (setS a))) else []
end Go.Proofs.YtmeplpiamkaniaaGreat
namespace Go.Proofs.YtmeplpiamkaniaaGreat
set_option linter.unusedVariables false
set_option linter.unusedSimpArgs false
structure Fl where
  id : Int
  step : Int
  kind : Int
  tick : Int
  actor : Int
  frm : Int
  to : Int
  item : Int
  n : Int
  parts : List Lt
  made : List Int
def okF (f : Fl) : Bool := validB f.parts && (decide (0 ≤ f.id) && (decide (0 ≤ f.item) && (decide (1 ≤ f.n) && (decide (f.n ≤ 1099511627776) && (f.parts.isEmpty || (f.made.isEmpty && decide (totL f.parts = f.n)))))))
theorem okF_iff {f : Fl} : okF f = true ↔ validB f.parts = true ∧ 0 ≤ f.id ∧ 0 ≤ f.item ∧ 1 ≤ f.n ∧ f.n ≤ 1099511627776 ∧ (f.parts = [] ∨ (f.made = [] ∧ totL f.parts = f.n)) := by
  simp only [okF, Bool.and_eq_true, Bool.or_eq_true, decide_eq_true_eq, List.isEmpty_iff]
def refsF (f : Fl) : List Int := f.parts.map (fun p => p.1) ++ f.made
def getF (fs : List Fl) (i : Int) : Option Fl := fs.find? fun f => f.id == i
def posF (fs : List Fl) (i : Int) : Option Nat := fs.findIdx? fun f => f.id == i
theorem getF_some {fs : List Fl} {i : Int} {f : Fl} (h : getF fs i = some f) : f ∈ fs ∧ f.id = i := by
  have h1 := List.mem_of_find?_eq_some h
  have h2 := List.find?_some h
  exact ⟨h1, by simpa using h2⟩
theorem getF_none {fs : List Fl} {i : Int} : getF fs i = none ↔ ∀ f ∈ fs, f.id ≠ i := by
  rw [getF, List.find?_eq_none]
  simp
theorem posF_some {fs : List Fl} {i : Int} {k : Nat} (h : posF fs i = some k) : ∃ f, fs[k]? = some f ∧ getF fs i = some f ∧ f.id = i := by
  induction fs generalizing k with
  | nil => simp [posF] at h
  | cons a fs ih =>
    rw [posF, List.findIdx?_cons] at h
    by_cases e : a.id = i
    · have e' : (a.id == i) = true := by simpa using e
      rw [e'] at h
      simp at h
      subst h
      exact ⟨a, rfl, by rw [getF, List.find?_cons, e'], e⟩
    · have e' : (a.id == i) = false := by simpa using e
      rw [e'] at h
      simp at h
      obtain ⟨j, hj, rfl⟩ := h
      obtain ⟨f, h1, h2, h3⟩ := ih hj
      exact ⟨f, by simpa using h1, by rw [getF, List.find?_cons, e']; exact h2, h3⟩
theorem posF_none {fs : List Fl} {i : Int} : posF fs i = none ↔ getF fs i = none := by
  rw [posF, getF, List.findIdx?_eq_none_iff, List.find?_eq_none]
  simp
def Ids (fs : List Fl) : Prop := fs.Pairwise fun f g => f.id ≠ g.id
theorem Ids.get {fs : List Fl} (h : Ids fs) {k : Nat} {f : Fl} (hk : fs[k]? = some f) : posF fs f.id = some k ∧ getF fs f.id = some f := by
  induction fs generalizing k with
  | nil => simp at hk
  | cons a fs ih =>
    have h' := List.pairwise_cons.1 h
    cases k with
    | zero =>
      simp at hk
      subst hk
      simp [posF, getF, List.findIdx?_cons]
    | succ k =>
      simp only [List.getElem?_cons_succ] at hk
      have hne : a.id ≠ f.id := h'.1 f (List.mem_of_getElem? hk)
      have e' : (a.id == f.id) = false := by simpa using hne
      obtain ⟨h1, h2⟩ := ih h'.2 hk
      refine ⟨?_, ?_⟩
      · rw [posF, List.findIdx?_cons, e']
        rw [posF] at h1
        simp [h1]
      · rw [getF, List.find?_cons, e']; exact h2
theorem Ids.mem {fs : List Fl} (h : Ids fs) {f : Fl} (hf : f ∈ fs) : getF fs f.id = some f := by
  obtain ⟨k, hk⟩ := List.getElem?_of_mem hf
  exact (h.get hk).2
theorem Ids.inj {fs : List Fl} (h : Ids fs) {j k : Nat} {f g : Fl} (hj : fs[j]? = some f) (hk : fs[k]? = some g) (e : f.id = g.id) : j = k := by
  have h1 := (h.get hj).1
  have h2 := (h.get hk).1
  rw [e] at h1
  rw [h1] at h2
  exact Option.some.inj h2
def chk1 : List Int → List Fl → Int
  | _, [] => 0
  | seen, f :: fs => if okF f then (if seen.contains f.id then 8 else chk1 (seen ++ [f.id]) fs) else 1
def partE (fs : List Fl) (f : Fl) (p : Lt) : Int :=
  match getF fs p.1 with
  | none => 7
  | some q => if q.n < p.2.1 + p.2.2 then 5 else if q.item = f.item then 0 else 9
def firstE : List Int → Int
  | [] => 0
  | e :: l => if e = 0 then firstE l else e
theorem firstE_zero {l : List Int} : firstE l = 0 ↔ ∀ e ∈ l, e = 0 := by
  induction l with
  | nil => simp [firstE]
  | cons a l ih =>
    rw [firstE]
    by_cases h : a = 0
    · rw [if_pos h, ih]; simp [h]
    · rw [if_neg h]; simp [h]
theorem firstE_app (a b : List Int) : firstE (a ++ b) = if firstE a = 0 then firstE b else firstE a := by
  induction a with
  | nil => simp [firstE]
  | cons x a ih =>
    rw [List.cons_append, firstE, firstE]
    by_cases h : x = 0
    · rw [if_pos h, if_pos h, ih]
    · rw [if_neg h, if_neg h, if_neg h]
def madeE (fs : List Fl) (i : Int) : Int := if (getF fs i).isSome then 0 else 7
def linkE (fs : List Fl) (f : Fl) : Int := firstE (f.parts.map (partE fs f) ++ f.made.map (madeE fs))
def chk2 (fs : List Fl) : Int := firstE (fs.map (linkE fs))
def Ranked (fs : List Fl) : Prop := ∃ rk : Int → Nat, ∀ f ∈ fs, ∀ j ∈ refsF f, rk j < rk f.id
inductive NewE (fs : List Fl) : Int → Prop
  | one : chk1 [] fs ≠ 0 → NewE fs (chk1 [] fs)
  | two : chk1 [] fs = 0 → chk2 fs ≠ 0 → NewE fs (chk2 fs)
  | cyc : chk1 [] fs = 0 → chk2 fs = 0 → ¬ Ranked fs → NewE fs 18
  | ok : chk1 [] fs = 0 → chk2 fs = 0 → Ranked fs → NewE fs 0
theorem NewE.inj {fs : List Fl} {e e' : Int} (h : NewE fs e) (h' : NewE fs e') : e = e' := by
  cases h <;> cases h' <;> first | rfl | contradiction
structure GOk (fs : List Fl) : Prop where
  one : chk1 [] fs = 0
  two : chk2 fs = 0
  rk : Ranked fs
theorem NewE.zero {fs : List Fl} (h : NewE fs 0) : GOk fs := by
  generalize he : (0 : Int) = e at h
  cases h with
  | one h => exact absurd he.symm h
  | two h h2 => exact absurd he.symm h2
  | cyc => cases he
  | ok h1 h2 h3 => exact ⟨h1, h2, h3⟩
theorem NewE.of_ok {fs : List Fl} (h : GOk fs) : NewE fs 0 := .ok h.one h.two h.rk
theorem chk1_app (seen : List Int) (a b : List Fl) : chk1 seen (a ++ b) = if chk1 seen a = 0 then chk1 (seen ++ a.map Fl.id) b else chk1 seen a := by
  induction a generalizing seen with
  | nil => simp [chk1]
  | cons f a ih =>
    rw [List.cons_append, chk1, chk1]
    by_cases h1 : okF f
    · rw [if_pos h1, if_pos h1]
      by_cases h2 : seen.contains f.id
      · rw [if_pos h2, if_pos h2]; simp
      · rw [if_neg h2, if_neg h2, ih]; simp
    · rw [if_neg h1, if_neg h1]; simp
theorem chk1_facts {seen : List Int} {fs : List Fl} (h : chk1 seen fs = 0) : (∀ f ∈ fs, okF f = true ∧ f.id ∉ seen) ∧ Ids fs := by
  induction fs generalizing seen with
  | nil => exact ⟨by simp, List.Pairwise.nil⟩
  | cons f fs ih =>
    rw [chk1] at h
    by_cases h1 : okF f
    · rw [if_pos h1] at h
      by_cases h2 : seen.contains f.id
      · rw [if_pos h2] at h; cases h
      · rw [if_neg h2] at h
        obtain ⟨a, b⟩ := ih h
        refine ⟨fun g hg => ?_, List.pairwise_cons.2 ⟨fun g hg e => ?_, b⟩⟩
        · rcases List.mem_cons.1 hg with rfl | hg
          · exact ⟨h1, by simpa using h2⟩
          · obtain ⟨c, d⟩ := a g hg
            exact ⟨c, fun hm => d (List.mem_append_left _ hm)⟩
        · exact (a g hg).2 (List.mem_append_right _ (by simp [e]))
    · rw [if_neg h1] at h; cases h
section
variable {fs : List Fl}
theorem GOk.ok (h : GOk fs) : ∀ f ∈ fs, okF f = true := fun f hf => ((chk1_facts h.one).1 f hf).1
theorem GOk.ids (h : GOk fs) : Ids fs := (chk1_facts h.one).2
theorem GOk.link (h : GOk fs) : ∀ f ∈ fs, linkE fs f = 0 := fun f hf => by
  have := h.two
  rw [chk2, firstE_zero] at this
  exact this _ (List.mem_map.2 ⟨f, hf, rfl⟩)
theorem link_part {f : Fl} (h : linkE fs f = 0) {p : Lt} (hp : p ∈ f.parts) : ∃ q, getF fs p.1 = some q ∧ p.2.1 + p.2.2 ≤ q.n ∧ q.item = f.item := by
  rw [linkE, firstE_zero] at h
  have := h _ (List.mem_append_left _ (List.mem_map.2 ⟨p, hp, rfl⟩))
  rw [partE] at this
  cases hq : getF fs p.1 with
  | none => rw [hq] at this; cases this
  | some q =>
    rw [hq] at this
    simp only at this
    by_cases h1 : q.n < p.2.1 + p.2.2
    · rw [if_pos h1] at this; cases this
    · rw [if_neg h1] at this
      by_cases h2 : q.item = f.item
      · exact ⟨q, rfl, by omega, h2⟩
      · rw [if_neg h2] at this; cases this
theorem link_made {f : Fl} (h : linkE fs f = 0) {i : Int} (hi : i ∈ f.made) : ∃ q, getF fs i = some q := by
  rw [linkE, firstE_zero] at h
  have := h _ (List.mem_append_right _ (List.mem_map.2 ⟨i, hi, rfl⟩))
  rw [madeE] at this
  cases hq : getF fs i with
  | none => rw [hq] at this; cases this
  | some q => exact ⟨q, rfl⟩
theorem GOk.refs (h : GOk fs) {f : Fl} (hf : f ∈ fs) {j : Int} (hj : j ∈ refsF f) : ∃ q, getF fs j = some q := by
  rcases List.mem_append.1 hj with hj | hj
  · obtain ⟨p, hp, rfl⟩ := List.mem_map.1 hj
    obtain ⟨q, h1, _⟩ := link_part (h.link f hf) hp
    exact ⟨q, h1⟩
  · exact link_made (h.link f hf) hj
end
def srcU (fs : List Fl) (u : Un) : Option Un := (getF fs u.1).bind fun f => if u.2 < 0 then none else (U f.parts)[u.2.toNat]?
def hasF (fs : List Fl) (x : Lt) : Bool := validB [x] && (match getF fs x.1 with | none => false | some f => decide (x.2.1 + x.2.2 ≤ f.n))
def InG (fs : List Fl) (u : Un) : Prop := ∃ f, getF fs u.1 = some f ∧ 0 ≤ u.2 ∧ u.2 < f.n
theorem hasF_iff {fs : List Fl} {x : Lt} : hasF fs x = true ↔ possB x = true ∧ ∃ f, getF fs x.1 = some f ∧ x.2.1 + x.2.2 ≤ f.n := by
  rw [hasF, Bool.and_eq_true]
  constructor
  · rintro ⟨h1, h2⟩
    refine ⟨(validB_iff.1 h1).2 x (by simp), ?_⟩
    cases hf : getF fs x.1 with
    | none => rw [hf] at h2; cases h2
    | some f => rw [hf] at h2; exact ⟨f, rfl, by simpa using h2⟩
  · rintro ⟨h1, f, h2, h3⟩
    refine ⟨validB_iff.2 ⟨by simp, by simpa using h1⟩, ?_⟩
    rw [h2]; simpa using h3
theorem hasF_units {fs : List Fl} {x : Lt} (h : hasF fs x = true) : ∀ u ∈ ul x, InG fs u := by
  obtain ⟨h1, f, h2, h3⟩ := hasF_iff.1 h
  have h1 := possB_iff.1 h1
  intro u hu
  have hu := mem_ul.1 hu
  exact ⟨f, by rw [hu.1]; exact h2, by omega, by omega⟩
theorem drop_take_map {α : Type} (l : List α) (a k : Nat) (h : a + k ≤ l.length) : (l.drop a).take k = (List.range k).filterMap fun i => l[a + i]? := by
  induction k with
  | zero => simp
  | succ k ih =>
    have hk : (l.drop a)[k]? = l[a + k]? := by rw [List.getElem?_drop]
    rw [List.take_add_one, ih (by omega), hk, List.range_succ, List.filterMap_append]
    have hs : l[a + k]? = some (l[a + k]'(by omega)) := List.getElem?_eq_getElem _
    rw [List.filterMap_cons, hs]
    rfl
theorem unitsOf_range (f a : Int) (n : Nat) : unitsOf f a n = (List.range n).map fun (i : Nat) => (f, a + (i : Int)) := by
  induction n with
  | zero => rfl
  | succ n ih => rw [unitsOf_add f a n 1, ih, List.range_succ, List.map_append]; simp [unitsOf]
theorem srcs_eq {fs : List Fl} {f : Fl} {x : Lt} (hf : getF fs x.1 = some f) (h0 : 0 ≤ x.2.1) (h1 : 0 ≤ x.2.2) (h2 : x.2.1 + x.2.2 ≤ ((U f.parts).length : Int)) :
    (ul x).filterMap (srcU fs) = ((U f.parts).drop x.2.1.toNat).take x.2.2.toNat := by
  rw [drop_take_map _ _ _ (by omega), ul, unitsOf_range, List.filterMap_map]
  congr 1
  funext i
  simp only [Function.comp_apply, srcU, hf, Option.bind_some]
  rw [if_neg (by omega)]
  congr 1
  omega
section
variable {fs : List Fl}
theorem GOk.len (h : GOk fs) {f : Fl} (hf : f ∈ fs) (hp : f.parts ≠ []) : ((U f.parts).length : Int) = f.n := by
  obtain ⟨h1, _, _, _, _, h2⟩ := okF_iff.1 (h.ok f hf)
  rcases h2 with h2 | ⟨_, h2⟩
  · exact absurd h2 hp
  · rw [← h2]
    exact U_len fun y hy => by have := possB_iff.1 ((validB_iff.1 h1).2 y hy); omega
theorem GOk.src (h : GOk fs) {u v : Un} (hv : srcU fs u = some v) : InG fs v ∧ ∃ f, getF fs u.1 = some f ∧ v.1 ∈ refsF f ∧ InG fs u := by
  rw [srcU] at hv
  cases hf : getF fs u.1 with
  | none => rw [hf] at hv; simp at hv
  | some f =>
    rw [hf] at hv
    simp only [Option.bind_some] at hv
    by_cases h0 : u.2 < 0
    · rw [if_pos h0] at hv; cases hv
    · rw [if_neg h0] at hv
      have hm := List.mem_of_getElem? hv
      have hlt := (List.getElem?_eq_some_iff.1 hv).1
      obtain ⟨p, hp, hvp⟩ := mem_U.1 hm
      have hfm := (getF_some hf).1
      obtain ⟨q, h1, h2, _⟩ := link_part (h.link f hfm) hp
      have hvp := mem_ul.1 hvp
      have hpp := possB_iff.1 ((validB_iff.1 (okF_iff.1 (h.ok f hfm)).1).2 p hp)
      refine ⟨⟨q, by rw [hvp.1]; exact h1, by omega, by omega⟩, f, rfl, ?_, f, hf, by omega, ?_⟩
      · rw [hvp.1]; exact List.mem_append_left _ (List.mem_map.2 ⟨p, hp, rfl⟩)
      · have := h.len hfm (by intro e; rw [e] at hp; cases hp)
        omega
theorem GOk.src_some (h : GOk fs) {u : Un} (hu : InG fs u) {f : Fl} (hf : getF fs u.1 = some f) (hp : f.parts ≠ []) : ∃ v, srcU fs u = some v := by
  obtain ⟨g, hg, h0, h1⟩ := hu
  rw [hf] at hg
  injection hg with hg
  subst hg
  have := h.len (getF_some hf).1 hp
  refine ⟨(U f.parts)[u.2.toNat]'(by omega), ?_⟩
  rw [srcU, hf]
  simp only [Option.bind_some]
  rw [if_neg (by omega)]
  exact List.getElem?_eq_getElem (by omega)
theorem src_none {u : Un} {f : Fl} (hf : getF fs u.1 = some f) (hp : f.parts = []) : srcU fs u = none := by
  rw [srcU, hf]
  simp [hp, U_nil]
def RootOf (fs : List Fl) (r : Un → Un) : Prop := ∀ u, r u = match srcU fs u with | none => u | some v => r v
def rootN (fs : List Fl) : Nat → Un → Un
  | 0, u => u
  | n + 1, u => match srcU fs u with | none => u | some v => rootN fs n v
theorem GOk.root (h : GOk fs) : ∃ r, RootOf fs r := by
  obtain ⟨rk, hrk⟩ := h.rk
  have key : ∀ (n : Nat) (u : Un), rk u.1 < n → ∀ m, rk u.1 < m → rootN fs n u = rootN fs m u := by
    intro n
    induction n with
    | zero => intro u h; omega
    | succ n ih =>
      intro u hu m hm
      cases m with
      | zero => omega
      | succ m =>
        rw [rootN, rootN]
        cases hv : srcU fs u with
        | none => rfl
        | some v =>
          obtain ⟨_, f, h1, h2, _⟩ := h.src hv
          have := hrk f (getF_some h1).1 _ h2
          rw [(getF_some h1).2] at this
          exact ih v (by omega) m (by omega)
  refine ⟨fun u => rootN fs (rk u.1 + 1) u, fun u => ?_⟩
  show rootN fs (rk u.1 + 1) u = match srcU fs u with | none => u | some v => rootN fs (rk v.1 + 1) v
  rw [rootN]
  cases hv : srcU fs u with
  | none => rfl
  | some v =>
    obtain ⟨_, f, h1, h2, _⟩ := h.src hv
    have := hrk f (getF_some h1).1 _ h2
    rw [(getF_some h1).2] at this
    exact key _ v this _ (by omega)
theorem RootOf.none_ {r : Un → Un} (h : RootOf fs r) {u : Un} (hu : srcU fs u = none) : r u = u := by rw [h u, hu]
theorem RootOf.some_ {r : Un → Un} (h : RootOf fs r) {u v : Un} (hu : srcU fs u = some v) : r u = r v := by rw [h u, hu]
end
end Go.Proofs.YtmeplpiamkaniaaGreat
namespace Go.Proofs.YtmeplpiamkaniaaGreat
theorem sA {α : Type _} {l : List α} {i : Nat} {a : α} : l.toArray.setIfInBounds i a = (l.set i a).toArray := by simp
theorem sB {α : Type _} {l : List α} {a b : α} : (a :: l).set 0 b = b :: l := rfl
theorem sC {α : Type _} {l : List α} {i : Nat} {a b : α} : (a :: l).set (i + 1) b = a :: l.set i b := rfl
end Go.Proofs.YtmeplpiamkaniaaGreat
