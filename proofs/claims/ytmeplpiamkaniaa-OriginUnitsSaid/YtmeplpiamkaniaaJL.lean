/- Lemmas of the claim, joined: GT GU GW GXa. No condition. -/
import Derived.Test.YtmeplpiamkaniaaJB
import Derived.Test.YtmeplpiamkaniaaJC
import Derived.Test.YtmeplpiamkaniaaJE
import Derived.Test.YtmeplpiamkaniaaJH
import Derived.Test.YtmeplpiamkaniaaJG
import Derived.Test.YtmeplpiamkaniaaJF
/- The model, plain: what a flow leads to, numbers in order, ancestors. -/
namespace Go.Proofs.Ytmeplpiamkaniaa
set_option linter.unusedVariables false
set_option linter.unusedSimpArgs false

/-! Leads -/
structure LdSt (fs : List Fl) (i : Int) (out rest : List Int) : Prop where
  nd : out.Nodup
  snd : ∀ j ∈ out, Lead1 fs i j
  gr : ∀ j ∈ rest, j = i ∨ j ∈ out
  clo : ∀ a, (a = i ∨ a ∈ out) → a ∉ rest → ∀ f, getF fs a = some f → ∀ j ∈ refsF f, j ∈ out
structure LdIn (fs : List Fl) (i a : Int) (f : Fl) (m : Nat) (out rest : List Int) : Prop where
  nd : out.Nodup
  snd : ∀ j ∈ out, Lead1 fs i j
  gr : ∀ j ∈ rest, j = i ∨ j ∈ out
  clo : ∀ b, (b = i ∨ b ∈ out) → b ∉ rest → b ≠ a → ∀ f, getF fs b = some f → ∀ j ∈ refsF f, j ∈ out
  part : ∀ j ∈ (refsF f).take m, j ∈ out
  at_ : a = i ∨ a ∈ out
  get : getF fs a = some f
section
variable {fs : List Fl} {i a : Int} {f : Fl} {m : Nat} {out rest : List Int}
theorem LdSt.start (fs : List Fl) (i : Int) : LdSt fs i [] [i] :=
  ⟨List.nodup_nil, fun _ h => (by cases h), fun j hj => .inl (by simpa using hj), fun a ha hn => by
    rcases ha with rfl | ha
    · exact absurd List.mem_cons_self hn
    · cases ha⟩
theorem LdSt.into (h : LdSt fs i out (a :: rest)) (hf : getF fs a = some f) : LdIn fs i a f 0 out rest :=
  ⟨h.nd, h.snd, fun j hj => h.gr j (List.mem_cons_of_mem _ hj), fun b hb hn hne => h.clo b hb (fun hm => by
    rcases List.mem_cons.1 hm with e | e
    · exact hne e
    · exact hn e), fun j hj => by simp at hj, h.gr a List.mem_cons_self, hf⟩
theorem LdIn.old (h : LdIn fs i a f m out rest) {j : Int} (hj : (refsF f)[m]? = some j) (hm : j ∈ out) : LdIn fs i a f (m + 1) out rest :=
  ⟨h.nd, h.snd, h.gr, h.clo, fun k hk => by
    rw [List.take_add_one, hj] at hk
    rcases List.mem_append.1 hk with hk | hk
    · exact h.part k hk
    · simp at hk; subst hk; exact hm, h.at_, h.get⟩
theorem LdIn.new (h : LdIn fs i a f m out rest) {j : Int} (hj : (refsF f)[m]? = some j) (hm : j ∉ out) : LdIn fs i a f (m + 1) (out ++ [j]) (rest ++ [j]) := by
  have hr : j ∈ refsF f := List.mem_of_getElem? hj
  refine ⟨?_, fun k hk => ?_, fun k hk => ?_, fun b hb hn hne g hg k hk => ?_, fun k hk => ?_, h.at_.imp id (List.mem_append_left _), h.get⟩
  · rw [List.nodup_append]
    exact ⟨h.nd, by simp, fun x hx y hy e => by simp at hy; subst hy; subst e; exact hm hx⟩
  · rcases List.mem_append.1 hk with hk | hk
    · exact h.snd k hk
    · simp at hk
      subst hk
      rcases h.at_ with e | e
      · have hg := h.get
        rw [e] at hg
        exact .one hg hr
      · exact .more (h.snd a e) h.get hr
  · rcases List.mem_append.1 hk with hk | hk
    · exact (h.gr k hk).imp id (List.mem_append_left _)
    · simp at hk; subst hk; exact .inr (by simp)
  · refine List.mem_append_left _ (h.clo b ?_ (fun hm => hn (List.mem_append_left _ hm)) hne g hg k hk)
    rcases hb with hb | hb
    · exact .inl hb
    · rcases List.mem_append.1 hb with hb | hb
      · exact .inr hb
      · exact absurd (List.mem_append_right _ hb) hn
  · rw [List.take_add_one, hj] at hk
    rcases List.mem_append.1 hk with hk | hk
    · exact List.mem_append_left _ (h.part k hk)
    · simp at hk; subst hk; simp
theorem LdIn.out_ (h : LdIn fs i a f (refsF f).length out rest) : LdSt fs i out rest :=
  ⟨h.nd, h.snd, h.gr, fun b hb hn g hg k hk => by
    by_cases e : b = a
    · subst e
      rw [h.get] at hg
      injection hg with hg
      subst hg
      exact h.part k (by rw [List.take_length]; exact hk)
    · exact h.clo b hb hn e g hg k hk⟩
theorem LdSt.done (h : LdSt fs i out []) : ∀ j, j ∈ out ↔ Lead1 fs i j :=
  fun j => ⟨h.snd j, lead_closed (fun a ha f hf k hk => h.clo a ha (by simp) f hf k hk) j⟩
theorem Lead1.get (hr : ∀ f ∈ fs, ∀ j ∈ refsF f, ∃ q, getF fs j = some q) {j : Int} (h : Lead1 fs i j) : ∃ q, getF fs j = some q := by
  cases h with
  | one h1 h2 => exact hr _ (getF_some h1).1 _ h2
  | more _ h1 h2 => exact hr _ (getF_some h1).1 _ h2
theorem lead_len {l : List Int} (hn : l.Nodup) (h : ∀ j ∈ l, ∃ q, getF fs j = some q) : l.length ≤ fs.length := by
  have := nodup_le (a := l) (b := fs.map Fl.id) hn fun j hj => by
    obtain ⟨q, hq⟩ := h j hj
    exact List.mem_map.2 ⟨q, (getF_some hq).1, (getF_some hq).2⟩
  rwa [List.length_map] at this
theorem LdSt.len (h : LdSt fs i out rest) (hr : ∀ f ∈ fs, ∀ j ∈ refsF f, ∃ q, getF fs j = some q) : out.length ≤ fs.length := lead_len h.nd fun j hj => (h.snd j hj).get hr
theorem LdIn.len (h : LdIn fs i a f m out rest) (hr : ∀ f ∈ fs, ∀ j ∈ refsF f, ∃ q, getF fs j = some q) : out.length ≤ fs.length := lead_len h.nd fun j hj => (h.snd j hj).get hr
end

/-! numbers in order -/
def insI (x : Int) (l : List Int) : List Int :=
  if l.contains x then l else (l.filter fun y => decide (y < x)) ++ [x] ++ l.filter fun y => decide (x < y)
def sortI (l : List Int) : List Int := l.foldl (fun o x => insI x o) []
theorem insI_facts (x : Int) {l : List Int} (h : l.Pairwise (· < ·)) : (insI x l).Pairwise (· < ·) ∧ ∀ y, y ∈ insI x l ↔ y = x ∨ y ∈ l := by
  unfold insI
  by_cases hx : x ∈ l
  · rw [if_pos (by simpa using hx)]
    exact ⟨h, fun y => ⟨.inr, fun hy => by rcases hy with rfl | hy <;> assumption⟩⟩
  · rw [if_neg (by simpa using hx)]
    refine ⟨?_, fun y => ?_⟩
    · rw [List.pairwise_append, List.pairwise_append]
      refine ⟨⟨h.filter _, by simp, fun a ha b hb => ?_⟩, h.filter _, fun a ha b hb => ?_⟩
      · have := (List.mem_filter.1 ha).2
        simp at hb this
        omega
      · have hb := (List.mem_filter.1 hb).2
        simp only [decide_eq_true_eq] at hb
        rcases List.mem_append.1 ha with ha | ha
        · have ha := (List.mem_filter.1 ha).2
          simp only [decide_eq_true_eq] at ha
          omega
        · simp at ha; omega
    · simp only [List.mem_append, List.mem_filter, decide_eq_true_eq, List.mem_singleton]
      constructor
      · rintro ((⟨h1, _⟩ | h1) | ⟨h1, _⟩)
        · exact .inr h1
        · exact .inl h1
        · exact .inr h1
      · rintro (rfl | h1)
        · exact .inl (.inr rfl)
        · have : y ≠ x := fun e => hx (e ▸ h1)
          by_cases hlt : y < x
          · exact .inl (.inl ⟨h1, hlt⟩)
          · exact .inr ⟨h1, by omega⟩
theorem foldI_facts (l : List Int) : ∀ o : List Int, o.Pairwise (· < ·) → (l.foldl (fun o x => insI x o) o).Pairwise (· < ·) ∧ ∀ y, y ∈ l.foldl (fun o x => insI x o) o ↔ y ∈ o ∨ y ∈ l := by
  induction l with
  | nil => intro o ho; exact ⟨ho, by simp⟩
  | cons x l ih =>
    intro o ho
    obtain ⟨h1, h2⟩ := insI_facts x ho
    obtain ⟨h3, h4⟩ := ih _ h1
    refine ⟨h3, fun y => ?_⟩
    rw [List.foldl_cons, h4, h2, List.mem_cons]
    constructor
    · rintro ((h | h) | h)
      · exact .inr (.inl h)
      · exact .inl h
      · exact .inr (.inr h)
    · rintro (h | h | h)
      · exact .inl (.inr h)
      · exact .inl (.inl h)
      · exact .inr h
theorem sortI_sorted (l : List Int) : Sorted (fun i => i ∈ l) (sortI l) := by
  obtain ⟨h1, h2⟩ := foldI_facts l [] List.Pairwise.nil
  exact ⟨h1, fun x => by rw [sortI, h2]; simp⟩
theorem insI_len (x : Int) (l : List Int) : (insI x l).length ≤ l.length + 1 := by
  unfold insI
  split
  · omega
  · rw [List.length_append, List.length_append]
    have h1 : (l.filter fun y => decide (y < x)).length + (l.filter fun y => decide (x < y)).length ≤ l.length := by
      induction l with
      | nil => simp
      | cons a l ih =>
        have ih := ih (fun hc => by rename_i hn; exact hn (by simp at hc ⊢; exact .inr hc))
        rw [List.filter_cons, List.filter_cons]
        by_cases h1 : a < x
        · have h2 : ¬ x < a := by omega
          simp [h1, h2]; omega
        · by_cases h2 : x < a
          · simp [h1, h2]; omega
          · simp [h1, h2]; omega
    simp; omega
/-- where a number belongs in a list in order -/
theorem insI_split {l : List Int} (h : l.Pairwise (· < ·)) {k : Nat} {x : Int} (hk : k ≤ l.length) (hb : ∀ y ∈ l.take k, y < x) (ha : ∀ y, l[k]? = some y → x ≤ y) : (l[k]? = some x ∧ insI x l = l) ∨ (l[k]? ≠ some x ∧ insI x l = l.take k ++ [x] ++ l.drop k) := by
  have hd : ∀ y ∈ l.drop k, x ≤ y := fun y hy => by
    obtain ⟨j, hj⟩ := List.getElem?_of_mem hy
    rw [List.getElem?_drop] at hj
    rcases Nat.eq_zero_or_pos j with rfl | hp
    · exact ha y hj
    · have hlt := (List.getElem?_eq_some_iff.1 hj).1
      have hz := ha l[k] (List.getElem?_eq_getElem (by omega))
      have h2 := (List.pairwise_iff_getElem.1 h) k (k + j) (by omega) hlt (by omega)
      rw [(List.getElem?_eq_some_iff.1 hj).2] at h2
      omega
  by_cases hx : l[k]? = some x
  · exact .inl ⟨hx, by unfold insI; rw [if_pos (by simpa using List.mem_of_getElem? hx)]⟩
  · have hnd : ∀ y ∈ l.drop k, x < y := fun y hy => by
      have h1 := hd y hy
      rcases Int.lt_or_le x y with h2 | h2
      · exact h2
      · obtain ⟨j, hj⟩ := List.getElem?_of_mem hy
        rw [List.getElem?_drop] at hj
        have e : y = x := by omega
        subst e
        rcases Nat.eq_zero_or_pos j with rfl | hp
        · exact absurd hj hx
        · have hlt := (List.getElem?_eq_some_iff.1 hj).1
          have hz := ha l[k] (List.getElem?_eq_getElem (by omega))
          have h2 := (List.pairwise_iff_getElem.1 h) k (k + j) (by omega) hlt (by omega)
          rw [(List.getElem?_eq_some_iff.1 hj).2] at h2
          omega
    have hni : x ∉ l := fun hm => by
      rw [← List.take_append_drop k l] at hm
      rcases List.mem_append.1 hm with hm | hm
      · have := hb x hm; omega
      · have := hnd x hm; omega
    refine .inr ⟨hx, ?_⟩
    unfold insI
    rw [if_neg (by simpa using hni)]
    have e : l = l.take k ++ l.drop k := (List.take_append_drop k l).symm
    have f1 : (l.filter fun y => decide (y < x)) = l.take k := by
      conv => lhs; rw [e]
      rw [List.filter_append, List.filter_eq_self.2 (by simpa using hb), List.filter_eq_nil_iff.2 (by intro y hy; have := hnd y hy; simp; omega), List.append_nil]
    have f2 : (l.filter fun y => decide (x < y)) = l.drop k := by
      conv => lhs; rw [e]
      rw [List.filter_append, List.filter_eq_nil_iff.2 (by intro y hy; have := hb y hy; simp; omega), List.filter_eq_self.2 (by simpa using hnd), List.nil_append]
    rw [f1, f2]

end Go.Proofs.Ytmeplpiamkaniaa
/- The model's numbers in order. -/
namespace Go.Proofs.Ytmeplpiamkaniaa
set_option linter.unusedVariables false
set_option linter.unusedSimpArgs false
open Go.RowKit

/-- a row of numbers that was begun behind the world W -/
def RowI (W V : World) (A : Option Addr) (n c : Nat) (l : List Int) : Prop := Own .i64 3 V W.heap.size A n c l ∧ E W V
theorem RowI.nil {W V : World} (h : E W V) : RowI W V none 0 0 [] := ⟨Own.nil _ _ _ _, h⟩
theorem RowI.e_ {W V V' : World} {A : Option Addr} {n c : Nat} {l : List Int} (h : RowI W V A n c l) (hE : E V V') : RowI W V' A n c l := ⟨h.1.e hE, h.2.trans hE⟩
theorem RowI.app {W V : World} {A : Option Addr} {n c : Nat} {l : List Int} (h : RowI W V A n c l) (A2 : Option Addr) (m c2 : Nat) (l2 : List Int) (hr : Nums .i64 V A2 m c2 l2) (hn : n + m ≤ 1099511627776) (ty : TypeId) :
    ∃ A' c' V', (Builtin.append_ #[22, 22] ty #[.slice A n c, .slice A2 m c2]).run Try.prog V = .ok (.slice A' (n + m) c') V' ∧ RowI W V' A' (n + m) c' (l ++ l2) ∧ V.grownBy V' (ob A) ∧ (ob A' = ob A ∨ ob A' = some V.heap.size) := by
  obtain ⟨A', c', V', hrun, hO, hG, hor⟩ := run_appN intTk V ty W.heap.size A n c l h.1 A2 m c2 l2 hr hn h.2.le
  rw [ob_eq] at hG
  rw [ob_eq, ob_eq] at hor
  exact ⟨A', c', V', hrun, ⟨hO, h.2.grown hG (fun k hk => (h.1.ltN k hk).1)⟩, hG, hor⟩
theorem nums_take {k : IntKind} {w : World} {A : Option Addr} {n c : Nat} {l : List Int} (h : Nums k w A n c l) {m : Nat} (hm : m ≤ n) : Nums k w A m c (l.take m) :=
  ⟨by rw [List.length_take, h.len]; omega, Nat.le_trans hm h.cap, h.mx, fun x hx => h.wf x (List.mem_of_mem_take hx), fun h0 => by
    obtain ⟨b, o, e, hb, hc⟩ := h.at_ (by omega)
    refine ⟨b, o, e, hb, fun i hi => ?_⟩
    rw [List.length_take] at hi
    rw [hc i (by have := h.len; omega), List.getElem_take]⟩
theorem nums_drop {k : IntKind} {w : World} {g n c : Nat} {l : List Int} (h : Nums k w (some ⟨g, 0, none⟩) n c l) {m : Nat} (hm : m ≤ n) : Nums k w (if c = m then some ⟨g, 0, none⟩ else some ⟨g, m, none⟩) (n - m) (c - m) (l.drop m) :=
  ⟨by rw [List.length_drop, h.len], by have := h.cap; omega, by have := h.mx; omega, fun x hx => h.wf x (List.mem_of_mem_drop hx), fun h0 => by
    obtain ⟨b, o, e, hb, hc⟩ := h.at_ (by omega)
    injection e with e
    injection e with e1 e2
    subst e1 e2
    rw [if_neg (by have := h.cap; omega)]
    refine ⟨g, m, rfl, hb, fun i hi => ?_⟩
    rw [List.length_drop] at hi
    have := hc (m + i) (by have := h.len; omega)
    rw [Nat.zero_add] at this
    rw [this, List.getElem_drop]⟩
theorem nums_one2 (W : World) {x : Int} (hx : (Lit.int .i64 x).wf = true) : Nums .i64 (W.alloc (.cells #[.int .i64 x] 3)) (some ⟨W.heap.size, 0, none⟩) 1 1 [x] :=
  ⟨rfl, Nat.le_refl _, by unfold maxLen; omega, by intro y hy; rw [List.mem_singleton] at hy; subst hy; exact hx, fun _ => ⟨W.heap.size, 0, rfl, by simp, fun j hj => by
    have : j = 0 := by simpa using hj
    subst this; exact cell_new _ _ _⟩⟩
/-- a number in a block of its own ahead of the row -/
theorem nums_up {X1 X2 : World} {g : Nat} {x : Int} (h : Nums .i64 X1 (some ⟨g, 0, none⟩) 1 1 [x]) (hE : E X1 X2) : Nums .i64 X2 (some ⟨g, 0, none⟩) 1 1 [x] := h.e hE
/-- lots stay as they are when the row is appended to -/
theorem lots_keep {V V' : World} {A A' A6 : Option Addr} {n c : Nat} {s : List Lt} (h : LotsAt V A6 n c s) (hG : V.grownBy V' (ob A)) (hor : ob A' = ob A ∨ ob A' = some V.heap.size) (hap : 0 < n → ob A6 ≠ ob A) : LotsAt V' A6 n c s ∧ (0 < n → ob A6 ≠ ob A') := by
  refine ⟨h.grown hG hap, fun h0 e => ?_⟩
  rcases hor with h1 | h1
  · exact hap h0 (e.trans h1)
  · obtain ⟨b, o, e2, hb, _⟩ := h.at_ h0
    rw [h1, e2] at e
    have : b = V.heap.size := by simpa [ob] using e
    omega
theorem sortI_snoc (l : List Int) (x : Int) : sortI (l ++ [x]) = insI x (sortI l) := by rw [sortI, sortI, List.foldl_append]; rfl
theorem sortI_len (l : List Int) : (sortI l).length ≤ l.length := by
  have h : ∀ (l o : List Int), (l.foldl (fun o x => insI x o) o).length ≤ o.length + l.length := by
    intro l
    induction l with
    | nil => intro o; simp
    | cons x l ih => intro o; have h1 := ih (insI x o); have h2 := insI_len x o; simp only [List.foldl_cons, List.length_cons]; omega
  have := h l []
  simpa [sortI] using this
set_option linter.unusedSimpArgs false in
set_option maxHeartbeats 8000000 in
set_option maxRecDepth 100000 in
theorem sortedI_c (A : Option Addr) (n c : Nat) (l : List Int) (w : World) (h : Nums .i64 w A n c l) (hn : n ≤ 100000) :
    Calls Try.prog 93 #[.slice A n c] w (RetOwn .i64 3 w (sortI l)) := by
  have hn63 := h.n63
  have HA := Lib.hid h
  have HN := Lib.hid hn
  clear h hn
  go_enter Try.func93, Try.ntmps93
  go_wp2_with fail
  go_loopw [3, 4] (fun t3 t4 wr => ∃ (i no co : Nat) (Ao : Option Addr) (out : List Int), i ≤ n ∧ t4 = .int .i64 i ∧ t3 = .slice Ao no co ∧ Own .i64 3 wr w.heap.size Ao no co out ∧ E w wr ∧ Hid (out = sortI (l.take i))) (fun _ t4 _ => n - (intOf t4).toNat)
  case atStart => exact ⟨0, 0, 0, none, [], Nat.zero_le _, rfl, rfl, Own.nil _ _ _ _, E.refl _, rfl⟩
  case round =>
    obtain ⟨i, no, co, Ao, out, hi, rfl, rfl, hO, hE, hout⟩ := hrel
    by_cases hlt : i < n
    · obtain ⟨b, o, x, rfl, hb, hx, hwx, hcx⟩ := (HA.out.e hE).get hlt
      have hiI : (i : Int) < (n : Int) := by omega
      have HX := Lib.hid hx
      have HWX := Lib.hid hwx
      have hno : no ≤ 100000 := by
        have h1 := hO.1
        have h2 := sortI_len (l.take i)
        rw [← hout.out, List.length_take] at h2
        have := HN.out
        omega
      have hno63 := hO.reads.n63
      have HSRT := Lib.hid (show out.Pairwise (· < ·) by rw [hout.out]; exact (sortI_sorted _).srt)
      have HOI := Lib.hid hO
      have HEI := Lib.hid hE
      have HOU := Lib.hid hout.out
      have HNO := Lib.hid hO.1
      have HCX := Lib.hid (fun W (hW : E wr W) => (hW.cell (p := ⟨b, _, none⟩) hb).trans hcx)
      obtain ⟨wq, hwq⟩ : ∃ wq, wq = wr := ⟨_, rfl⟩
      subst hwq
      have hcap := hO.reads.cap
      have hform := hO.form
      clear hx hwx hO hE hout hcx
      go_wp2_with fail
      go_loopw [5] (fun t5 wr => ∃ k : Nat, k ≤ no ∧ t5 = .int .i64 k ∧ E wq wr ∧ Hid (∀ y ∈ out.take k, y < x)) (fun t5 _ => no - (intOf t5).toNat)
      case atStart => exact ⟨0, Nat.zero_le _, rfl, E.refl _, fun y hy => by simp at hy⟩
      case round =>
        obtain ⟨k, hk, rfl, hE, hlo⟩ := hrel
        have hcx := HCX.out wr hE
        have hk0 : (0 : Int) ≤ (k : Int) := by omega
        have hin : (k < no ∧ ∃ y, out[k]? = some y ∧ y < x) ∨ (Hid (∀ y, out[k]? = some y → x ≤ y)) := by
          by_cases hkl : k < no
          · obtain ⟨y, hy⟩ : ∃ y, out[k]? = some y := ⟨_, List.getElem?_eq_getElem (by rw [HNO.out]; exact hkl)⟩
            by_cases hyx : y < x
            · exact .inl ⟨hkl, y, hy, hyx⟩
            · exact .inr (fun z hz => by rw [hy] at hz; injection hz with hz; omega)
          · exact .inr (fun z hz => by rw [List.getElem?_eq_none (by rw [HNO.out]; omega)] at hz; cases hz)
        rcases hin with ⟨hkl, y, hy, hyx⟩ | hstop
        · obtain ⟨bo, oo, y', hAo, hbo, hy', hwy, hcy⟩ := (HOI.out.reads.e hE).get hkl
          rw [hy] at hy'
          injection hy' with hy'
          subst hy'
          subst hAo
          have hkI : (k : Int) < (no : Int) := by omega
          have dyx : decide (y < x) = true := by simpa using hyx
          have HLO := Lib.hid (show ∀ z ∈ out.take (k + 1), z < x by
            intro z hz
            rw [List.take_add_one, hy] at hz
            rcases List.mem_append.1 hz with hz | hz
            · exact hlo.out z hz
            · simp at hz; subst hz; exact hyx)
          clear hy hwy
          go_upto_region 6 with fail
          (refine wp_region_quiet_lit (by kernel_rfl) (by kernel_rfl) ?_; (repeat (first | ((with_reducible refine wpQuiet_step (fun K hK => ?_)); go_simp; (with_reducible refine hK _ ?_); clear hK K) | ((with_reducible refine wpQuiet_off (by kernel_rfl) (fun K hK => ?_)); go_simp; (with_reducible refine hK _ ?_); clear hK K))); (with_reducible refine wpQuiet_nil ?_); intro _ hw'; obtain ⟨nq, hw''⟩ := hw'; subst hw'')
          go_wp2_with fail
          go_roundw
          case rel => exact ⟨k + 1, by omega, by go_num, hE.drewN _, HLO⟩
          case measure => simp [intOf]; omega
        · have HSP := Lib.hid (insI_split HSRT.out (by rw [HNO.out]; exact hk) hlo.out hstop.out)
          have HNX := Lib.hid (show sortI (l.take (i + 1)) = insI x out by rw [List.take_add_one, HX.out, HOU.out]; exact sortI_snoc _ _)
          by_cases hkl : k < no
          · obtain ⟨bo, oo, y, hAo, hbo, hy, hwy, hcy⟩ := (HOI.out.reads.e hE).get hkl
            have hkI : (k : Int) < (no : Int) := by omega
            have hkne : ((k : Int) == (no : Int)) = false := by simp; omega
            have hxy := hstop.out y hy
            have dyx : decide (y < x) = false := by simp; omega
            obtain ⟨go, rfl⟩ : ∃ go, Ao = some ⟨go, 0, none⟩ := by
              rcases hform with ⟨_, h0, _⟩ | ⟨go, h0, _⟩
              · omega
              · exact ⟨go, h0⟩
            injection hAo with hAo
            injection hAo with hA1 hA2
            subst hA1 hA2
            simp only [Nat.zero_add] at hcy
            by_cases hyx : y = x
            · have HR := Lib.hid (show sortI (l.take (i + 1)) = out by
                rw [HNX.out]
                rcases HSP.out with ⟨_, h2⟩ | ⟨h2, _⟩
                · exact h2
                · exact absurd (by rw [hy, hyx]) h2)
              subst hyx
              clear hy hwy hstop hlo hxy
              go_upto_region 6 with fail
              (refine wp_region_quiet_lit (by kernel_rfl) (by kernel_rfl) ?_; (repeat (first | ((with_reducible refine wpQuiet_step (fun K hK => ?_)); go_simp; (with_reducible refine hK _ ?_); clear hK K) | ((with_reducible refine wpQuiet_off (by kernel_rfl) (fun K hK => ?_)); go_simp; (with_reducible refine hK _ ?_); clear hK K))); (with_reducible refine wpQuiet_nil ?_); intro _ hw'; obtain ⟨nq, hw''⟩ := hw'; subst hw'')
              go_upto_region 8 with fail
              obtain ⟨ws, hws⟩ : ∃ ws, wr.drewN nq = ws := ⟨_, rfl⟩
              have hEs : E wr ws := by rw [← hws]; exact (E.refl wr).drewN nq
              rw [hws]
              have hcx2 := HCX.out ws (hE.trans hEs)
              have hcy2 := (hEs.cell (p := ⟨go, _, none⟩) hbo).trans hcy
              clear hcx hcy hws
              (refine wp_region_quiet_lit (by kernel_rfl) (by kernel_rfl) ?_; (repeat (first | ((with_reducible refine wpQuiet_step (fun K hK => ?_)); go_simp; (with_reducible refine hK _ ?_); clear hK K) | ((with_reducible refine wpQuiet_off (by kernel_rfl) (fun K hK => ?_)); go_simp; (with_reducible refine hK _ ?_); clear hK K))); (with_reducible refine wpQuiet_nil ?_); intro _ hw'; obtain ⟨nq, hw''⟩ := hw'; subst hw'')
              go_wp2_with fail
              go_roundw
              case rel => exact ⟨i + 1, no, co, _, out, by omega, by go_num, rfl, HOI.out.e ((hE.trans hEs).drewN _), HEI.out.trans ((hE.trans hEs).drewN _), HR.out.symm⟩
              case measure => simp [intOf]; omega
            · have HR := Lib.hid (show sortI (l.take (i + 1)) = out.take k ++ [x] ++ out.drop k by
                rw [HNX.out]
                rcases HSP.out with ⟨h2, _⟩ | ⟨_, h2⟩
                · rw [hy] at h2; injection h2 with h2; exact absurd h2 hyx
                · exact h2)
              have dne : (y != x) = true := by simpa using hyx
              clear hy hwy hstop hlo hxy
              go_upto_region 6 with fail
              (refine wp_region_quiet_lit (by kernel_rfl) (by kernel_rfl) ?_; (repeat (first | ((with_reducible refine wpQuiet_step (fun K hK => ?_)); go_simp; (with_reducible refine hK _ ?_); clear hK K) | ((with_reducible refine wpQuiet_off (by kernel_rfl) (fun K hK => ?_)); go_simp; (with_reducible refine hK _ ?_); clear hK K))); (with_reducible refine wpQuiet_nil ?_); intro _ hw'; obtain ⟨nq, hw''⟩ := hw'; subst hw'')
              go_upto_region 8 with fail
              obtain ⟨ws, hws⟩ : ∃ ws, wr.drewN nq = ws := ⟨_, rfl⟩
              have hEs : E wr ws := by rw [← hws]; exact (E.refl wr).drewN nq
              rw [hws]
              have hcx2 := HCX.out ws (hE.trans hEs)
              have hcy2 := (hEs.cell (p := ⟨go, _, none⟩) hbo).trans hcy
              clear hcx hcy hws
              (refine wp_region_quiet_lit (by kernel_rfl) (by kernel_rfl) ?_; (repeat (first | ((with_reducible refine wpQuiet_step (fun K hK => ?_)); go_simp; (with_reducible refine hK _ ?_); clear hK K) | ((with_reducible refine wpQuiet_off (by kernel_rfl) (fun K hK => ?_)); go_simp; (with_reducible refine hK _ ?_); clear hK K))); (with_reducible refine wpQuiet_nil ?_); intro _ hw'; obtain ⟨nq, hw''⟩ := hw'; subst hw'')
              go_upto_region 10 with fail
              have hkc : (k : Int) ≤ (co : Int) := by omega
              have hkno : (k : Int) ≤ (no : Int) := by omega
              have hcne : ¬ co = k := by omega
              obtain ⟨w0, hw0⟩ : ∃ w0, ws.drewN nq = w0 := ⟨_, rfl⟩
              have hE0 : E wq w0 := by rw [← hw0]; exact (hE.trans hEs).drewN nq
              rw [hw0]
              clear hw0
              have HS := Lib.hid (fun W (hW : E w0 W) => HCX.out W (hE0.trans hW))
              have HR1 := Lib.hid (fun W (hW : E w0 W) => nums_take ((HOI.out.reads.e (hE0.trans hW))) (m := k) (by omega))
              have HR2 := Lib.hid (fun (W : World) (hW : E w0 W) => show Nums .i64 W (some ⟨go, k, none⟩) (no - k) (co - k) (out.drop k) from (by have h9 := nums_drop (HOI.out.reads.e (hE0.trans hW)) (m := k) (by omega); rw [if_neg hcne] at h9; exact h9))
              have hEd : E w0 w0.drew := (E.refl w0).drew
              obtain ⟨A1, d1, V1, run1, r1, _⟩ := (RowI.nil hEd).app _ _ _ _ (HR1.out _ hEd) (by omega) 22
              rw [Nat.zero_add, List.nil_append] at r1
              rw [Nat.zero_add] at run1
              obtain ⟨V2, hV2⟩ : ∃ V2, V1.alloc (.cells #[.int .i64 x] 3) = V2 := ⟨_, rfl⟩
              have hE12 : E V1 V2 := by rw [← hV2]; exact (E.refl V1).alloc _
              obtain ⟨A2, d2, V3, run2, r2, _⟩ := (r1.e_ hE12).app _ _ _ _ (show Nums .i64 V2 (some ⟨V1.heap.size, 0, none⟩) 1 1 [x] by rw [← hV2]; exact nums_one2 V1 HWX.out) (by omega) 22
              obtain ⟨A3, d3, V4, run3, r3, _⟩ := r2.app _ _ _ _ (HR2.out V3 r2.2) (by omega) 22
              obtain ⟨X1, hX1⟩ : ∃ X1, (w0.alloc (.cells #[.int .i64 x] 3)).drew = X1 := ⟨_, rfl⟩
              have hX1b : w0.drew.alloc (.cells #[.int .i64 x] 3) = X1 := hX1
              have hEX : E w0 X1 := by rw [← hX1]; exact ((E.refl w0).alloc _).drew
              have hNX : Nums .i64 X1 (some ⟨w0.heap.size, 0, none⟩) 1 1 [x] := by rw [← hX1b]; exact nums_one2 w0.drew HWX.out
              obtain ⟨B1, e1, X2, sun1, s1, g1, _⟩ := (RowI.nil hEX).app _ _ _ _ (HR1.out _ hEX) (by omega) 22
              rw [Nat.zero_add, List.nil_append] at s1
              rw [Nat.zero_add] at sun1
              have hN2 : Nums .i64 X2 (some ⟨w0.heap.size, 0, none⟩) 1 1 [x] := nums_up hNX ((E.refl X1).grown g1 (fun k hk => by cases hk))
              obtain ⟨B2, e2, X3, sun2, s2, _⟩ := s1.app _ _ _ _ hN2 (by omega) 22
              obtain ⟨B3, e3, X4, sun3, s3, _⟩ := s2.app _ _ _ _ (HR2.out X3 s2.2) (by omega) 22
              have HA3 := Lib.hid r3
              have HB3 := Lib.hid s3
              refine wp_region_held_drew (S := (fun W => W.cell? ⟨b, o + i, none⟩ = some (.int .i64 x))) (by kernel_rfl) (HS.out _ hEd) (fun hHeld => ?_)
              (((refine wpAnyH_take (i := 0) (v := ?_) rfl (by kernel_rfl) (by kernel_rfl) (by kernel_rfl) (fun _ _ _ h => h) (Or.inl ⟨by kernel_rfl, ?_⟩) (by assumption) ?_); rotate_left 1; (focus (intro w hSw; (try dsimp only at hSw); go_simp; (try with_reducible rfl))); (try simp only [Act.put, List.setIfInBounds_toArray, List.set_cons_zero, List.set_cons_succ])); ((refine wpAnyH_take (i := 1) (v := ?_) rfl (by kernel_rfl) (by kernel_rfl) (by kernel_rfl) (fun _ _ _ h => h) (Or.inl ⟨by kernel_rfl, ?_⟩) (by assumption) ?_); rotate_left 1; (focus (intro w hSw; (try dsimp only at hSw); go_simp; (try with_reducible rfl))); (try simp only [Act.put, List.setIfInBounds_toArray, List.set_cons_zero, List.set_cons_succ])); ((refine wpAnyH_take (i := 2) (v := ?_) rfl (by kernel_rfl) (by kernel_rfl) (by kernel_rfl) (fun _ _ _ h => h) (Or.inl ⟨by kernel_rfl, ?_⟩) (by assumption) ?_); rotate_left 1; (focus (intro w hSw; (try dsimp only at hSw); go_simp; (try with_reducible rfl))); (try simp only [Act.put, List.setIfInBounds_toArray, List.set_cons_zero, List.set_cons_succ])); ((refine wpAnyH_take (i := 3) (v := ?_) rfl (by kernel_rfl) (by kernel_rfl) (by kernel_rfl) (fun _ _ _ h => h) (Or.inl ⟨by kernel_rfl, ?_⟩) (by assumption) ?_); rotate_left 1; (focus (intro w hSw; (try dsimp only at hSw); go_simp; (try with_reducible rfl))); (try simp only [Act.put, List.setIfInBounds_toArray, List.set_cons_zero, List.set_cons_succ])); ((refine wpAnyH_take (i := 5) (v := ?_) rfl (by kernel_rfl) (by kernel_rfl) (by kernel_rfl) (fun _ _ _ h => h) (Or.inl ⟨by kernel_rfl, ?_⟩) (by assumption) ?_); rotate_left 1; (focus (intro w hSw; (try dsimp only at hSw); go_simp; (try with_reducible rfl))); (try simp only [Act.put, List.setIfInBounds_toArray, List.set_cons_zero, List.set_cons_succ])); ((refine wpAnyH_take (i := 6) (v := ?_) rfl (by kernel_rfl) (by kernel_rfl) (by kernel_rfl) (fun _ _ _ h => h) (Or.inl ⟨by kernel_rfl, ?_⟩) (by assumption) ?_); rotate_left 1; (focus (intro w hSw; (try dsimp only at hSw); go_simp; (try with_reducible rfl))); (try simp only [Act.put, List.setIfInBounds_toArray, List.set_cons_zero, List.set_cons_succ])); ((refine wpAnyH_take (i := 7) (v := ?_) rfl (by kernel_rfl) (by kernel_rfl) (by kernel_rfl) (fun _ _ _ h => h) (Or.inl ⟨by kernel_rfl, ?_⟩) (by assumption) ?_); rotate_left 1; (focus (intro w hSw; (try dsimp only at hSw); go_simp; (try with_reducible rfl))); (try simp only [Act.put, List.setIfInBounds_toArray, List.set_cons_zero, List.set_cons_succ])); ((refine wpAnyH_take (i := 8) (v := ?_) rfl (by kernel_rfl) (by kernel_rfl) (by kernel_rfl) (fun _ _ _ h => h) (Or.inl ⟨by kernel_rfl, ?_⟩) (by assumption) ?_); rotate_left 1; (focus (intro w hSw; (try dsimp only at hSw); go_simp; (try with_reducible rfl))); (try simp only [Act.put, List.setIfInBounds_toArray, List.set_cons_zero, List.set_cons_succ])); ((refine wpAnyH_take (i := 11) (v := ?_) rfl (by kernel_rfl) (by kernel_rfl) (by kernel_rfl) (fun _ _ _ h => h) (Or.inl ⟨by kernel_rfl, ?_⟩) (by assumption) ?_); rotate_left 1; (focus (intro w hSw; (try dsimp only at hSw); go_simp; (try with_reducible rfl))); (try simp only [Act.put, List.setIfInBounds_toArray, List.set_cons_zero, List.set_cons_succ])); ((refine wpAnyH_take (i := 12) (v := ?_) rfl (by kernel_rfl) (by kernel_rfl) (by kernel_rfl) (fun _ _ _ h => h) (Or.inl ⟨by kernel_rfl, ?_⟩) (by assumption) ?_); rotate_left 1; (focus (intro w hSw; (try dsimp only at hSw); go_simp; (try with_reducible rfl))); (try simp only [Act.put, List.setIfInBounds_toArray, List.set_cons_zero, List.set_cons_succ])); ((refine wpAnyH_take (i := 13) (v := ?_) rfl (by kernel_rfl) (by kernel_rfl) (by kernel_rfl) (fun _ _ _ h => h) (Or.inl ⟨by kernel_rfl, ?_⟩) (by assumption) ?_); rotate_left 1; (focus (intro w hSw; (try dsimp only at hSw); go_simp; (try with_reducible rfl))); (try simp only [Act.put, List.setIfInBounds_toArray, List.set_cons_zero, List.set_cons_succ])))
              simp only [List.getElem_toArray, List.getElem_cons_succ, List.getElem_cons_zero, Act.put, List.setIfInBounds_toArray, List.set_cons_zero, List.set_cons_succ]
              refine wpAnyH_ready (rs := [4, 9]) (by kernel_rfl) (by simp) ?_
              refine AllReadyH.cons rfl (fun K hK => ?_) (AllReadyH.cons rfl (fun K hK => ?_) AllReadyH.nil)
              · refine step_app_runQ (by rfl) _ _ (by rfl) (by rfl) (by rfl) run1 ?_
                refine hK _ _ (HS.out _ r1.2) (fun hh => ?_)
                clear hK K hHeld
                have hHeld := hh
                clear hh
                (try simp only [List.getElem_toArray, List.getElem_cons_succ, List.getElem_cons_zero, Act.put, List.setIfInBounds_toArray, List.set_cons_zero, List.set_cons_succ])
                (((refine wpAnyH_ready (rs := [9]) (by kernel_rfl) (by simp) ?_); (refine AllReadyH.cons rfl (fun K hK => ?_) AllReadyH.nil); (rw [if_pos (by kernel_rfl)]); go_simp))
                (try rw [hV2])
                refine hK _ _ (HS.out _ (r1.e_ hE12).2) (fun hh => ?_)
                clear hK K hHeld
                have hHeld := hh
                clear hh
                (try simp only [List.getElem_toArray, List.getElem_cons_succ, List.getElem_cons_zero, Act.put, List.setIfInBounds_toArray, List.set_cons_zero, List.set_cons_succ])
                refine wpAnyH_ready (rs := [10]) (by kernel_rfl) (by simp) ?_
                refine AllReadyH.cons rfl (fun K hK => ?_) AllReadyH.nil
                refine step_app_runQ (by rfl) _ _ (by rfl) (by rfl) (by rfl) run2 ?_
                refine hK _ _ (HS.out _ r2.2) (fun hh => ?_)
                clear hK K hHeld
                have hHeld := hh
                clear hh
                (try simp only [List.getElem_toArray, List.getElem_cons_succ, List.getElem_cons_zero, Act.put, List.setIfInBounds_toArray, List.set_cons_zero, List.set_cons_succ])
                refine wpAnyH_ready (rs := [14]) (by kernel_rfl) (by simp) ?_
                refine AllReadyH.cons rfl (fun K hK => ?_) AllReadyH.nil
                refine step_app_runQ (by rfl) _ _ (by rfl) (by rfl) (by rfl) run3 ?_
                refine hK _ _ (HS.out _ r3.2) (fun hh => ?_)
                clear hK K hHeld
                have hHeld := hh
                clear hh
                (try simp only [List.getElem_toArray, List.getElem_cons_succ, List.getElem_cons_zero, Act.put, List.setIfInBounds_toArray, List.set_cons_zero, List.set_cons_succ])
                (((refine wpAnyH_take (i := 15) (v := ?_) rfl (by kernel_rfl) (by kernel_rfl) (by kernel_rfl) (fun _ _ _ h => h) (Or.inl ⟨by kernel_rfl, ?_⟩) (by assumption) ?_); rotate_left 1; (focus (intro w hSw; (try dsimp only at hSw); go_simp; (try with_reducible rfl))); (try simp only [Act.put, List.setIfInBounds_toArray, List.set_cons_zero, List.set_cons_succ])))
                refine wpAnyH_done (by kernel_rfl) ?_ _
                go_simp
                clear hHeld
                go_wp2_with fail
                go_roundw
                case rel => exact ⟨i + 1, _, _, _, _, by omega, by go_num, rfl, (HA3.out.1.rebase (HEI.out.trans hE0).le).cast HR.out.symm, (HEI.out.trans hE0).trans HA3.out.2, rfl⟩
                case measure => simp [intOf]; omega
              · rw [if_pos (by kernel_rfl)]
                go_simp
                (try rw [hX1])
                (try rw [hX1b])
                refine hK _ _ (HS.out _ hEX) (fun hh => ?_)
                clear hK K hHeld
                have hHeld := hh
                clear hh
                (try simp only [List.getElem_toArray, List.getElem_cons_succ, List.getElem_cons_zero, Act.put, List.setIfInBounds_toArray, List.set_cons_zero, List.set_cons_succ])
                refine wpAnyH_ready (rs := [4]) (by kernel_rfl) (by simp) ?_
                refine AllReadyH.cons rfl (fun K hK => ?_) AllReadyH.nil
                refine step_app_runQ (by rfl) _ _ (by rfl) (by rfl) (by rfl) sun1 ?_
                refine hK _ _ (HS.out _ s1.2) (fun hh => ?_)
                clear hK K hHeld
                have hHeld := hh
                clear hh
                (try simp only [List.getElem_toArray, List.getElem_cons_succ, List.getElem_cons_zero, Act.put, List.setIfInBounds_toArray, List.set_cons_zero, List.set_cons_succ])
                refine wpAnyH_ready (rs := [10]) (by kernel_rfl) (by simp) ?_
                refine AllReadyH.cons rfl (fun K hK => ?_) AllReadyH.nil
                refine step_app_runQ (by rfl) _ _ (by rfl) (by rfl) (by rfl) sun2 ?_
                refine hK _ _ (HS.out _ s2.2) (fun hh => ?_)
                clear hK K hHeld
                have hHeld := hh
                clear hh
                (try simp only [List.getElem_toArray, List.getElem_cons_succ, List.getElem_cons_zero, Act.put, List.setIfInBounds_toArray, List.set_cons_zero, List.set_cons_succ])
                refine wpAnyH_ready (rs := [14]) (by kernel_rfl) (by simp) ?_
                refine AllReadyH.cons rfl (fun K hK => ?_) AllReadyH.nil
                refine step_app_runQ (by rfl) _ _ (by rfl) (by rfl) (by rfl) sun3 ?_
                refine hK _ _ (HS.out _ s3.2) (fun hh => ?_)
                clear hK K hHeld
                have hHeld := hh
                clear hh
                (try simp only [List.getElem_toArray, List.getElem_cons_succ, List.getElem_cons_zero, Act.put, List.setIfInBounds_toArray, List.set_cons_zero, List.set_cons_succ])
                (((refine wpAnyH_take (i := 15) (v := ?_) rfl (by kernel_rfl) (by kernel_rfl) (by kernel_rfl) (fun _ _ _ h => h) (Or.inl ⟨by kernel_rfl, ?_⟩) (by assumption) ?_); rotate_left 1; (focus (intro w hSw; (try dsimp only at hSw); go_simp; (try with_reducible rfl))); (try simp only [Act.put, List.setIfInBounds_toArray, List.set_cons_zero, List.set_cons_succ])))
                refine wpAnyH_done (by kernel_rfl) ?_ _
                go_simp
                clear hHeld
                go_wp2_with fail
                go_roundw
                case rel => exact ⟨i + 1, _, _, _, _, by omega, by go_num, rfl, (HB3.out.1.rebase (HEI.out.trans hE0).le).cast HR.out.symm, (HEI.out.trans hE0).trans HB3.out.2, rfl⟩
                case measure => simp [intOf]; omega
          · have hkn : k = no := by omega
            subst hkn
            have hkl2 : ¬ (k : Int) < (k : Int) := by omega
            have HR := Lib.hid (show sortI (l.take (i + 1)) = out.take k ++ [x] ++ out.drop k by
              rw [HNX.out]
              rcases HSP.out with ⟨h2, _⟩ | ⟨_, h2⟩
              · rw [List.getElem?_eq_none (by rw [HNO.out]; exact Nat.le_refl _)] at h2; cases h2
              · exact h2)
            clear hstop hlo
            go_upto_region 6 with fail
            (refine wp_region_quiet_lit (by kernel_rfl) (by kernel_rfl) ?_; (repeat (first | ((with_reducible refine wpQuiet_step (fun K hK => ?_)); go_simp; (with_reducible refine hK _ ?_); clear hK K) | ((with_reducible refine wpQuiet_off (by kernel_rfl) (fun K hK => ?_)); go_simp; (with_reducible refine hK _ ?_); clear hK K))); (with_reducible refine wpQuiet_nil ?_); intro _ hw'; obtain ⟨nq, hw''⟩ := hw'; subst hw'')
            go_upto_region 8 with fail
            obtain ⟨ws, hws⟩ : ∃ ws, wr.drewN nq = ws := ⟨_, rfl⟩
            have hEs : E wr ws := by rw [← hws]; exact (E.refl wr).drewN nq
            rw [hws]
            have hcx2 := HCX.out ws (hE.trans hEs)
            clear hcx hws
            have HR := Lib.hid (show sortI (l.take (i + 1)) = out.take k ++ [x] ++ [] by rw [HR.out, List.drop_eq_nil_of_le (by rw [HNO.out]; exact Nat.le_refl _)])
            rcases hform with ⟨rfl, h0, h1⟩ | ⟨go, rfl, _, _, hnc, hcm⟩
            · subst h0 h1
              (refine wp_region_quiet_lit (by kernel_rfl) (by kernel_rfl) ?_; (repeat (first | ((with_reducible refine wpQuiet_step (fun K hK => ?_)); go_simp; (with_reducible refine hK _ ?_); clear hK K) | ((with_reducible refine wpQuiet_off (by kernel_rfl) (fun K hK => ?_)); go_simp; (with_reducible refine hK _ ?_); clear hK K))); (with_reducible refine wpQuiet_nil ?_); intro _ hw'; obtain ⟨nq, hw''⟩ := hw'; subst hw'')
              go_upto_region 10 with fail
              obtain ⟨w0, hw0⟩ : ∃ w0, ws.drewN nq = w0 := ⟨_, rfl⟩
              have hE0 : E wq w0 := by rw [← hw0]; exact (hE.trans hEs).drewN nq
              rw [hw0]
              clear hw0
              have HS := Lib.hid (fun W (hW : E w0 W) => HCX.out W (hE0.trans hW))
              have HR1 := Lib.hid (fun W (hW : E w0 W) => nums_take ((HOI.out.reads.e (hE0.trans hW))) (m := 0) (by omega))
              have HR2 := Lib.hid (fun (W : World) (hW : E w0 W) => (Nums.nil .i64 W none 0 (Nat.zero_le _)))
              have hEd : E w0 w0.drew := (E.refl w0).drew
              obtain ⟨A1, d1, V1, run1, r1, _⟩ := (RowI.nil hEd).app _ _ _ _ (HR1.out _ hEd) (by omega) 22
              rw [Nat.zero_add, List.nil_append] at r1
              rw [Nat.zero_add] at run1
              obtain ⟨V2, hV2⟩ : ∃ V2, V1.alloc (.cells #[.int .i64 x] 3) = V2 := ⟨_, rfl⟩
              have hE12 : E V1 V2 := by rw [← hV2]; exact (E.refl V1).alloc _
              obtain ⟨A2, d2, V3, run2, r2, _⟩ := (r1.e_ hE12).app _ _ _ _ (show Nums .i64 V2 (some ⟨V1.heap.size, 0, none⟩) 1 1 [x] by rw [← hV2]; exact nums_one2 V1 HWX.out) (by omega) 22
              obtain ⟨A3, d3, V4, run3, r3, _⟩ := r2.app _ _ _ _ (HR2.out V3 r2.2) (by omega) 22
              obtain ⟨X1, hX1⟩ : ∃ X1, (w0.alloc (.cells #[.int .i64 x] 3)).drew = X1 := ⟨_, rfl⟩
              have hX1b : w0.drew.alloc (.cells #[.int .i64 x] 3) = X1 := hX1
              have hEX : E w0 X1 := by rw [← hX1]; exact ((E.refl w0).alloc _).drew
              have hNX : Nums .i64 X1 (some ⟨w0.heap.size, 0, none⟩) 1 1 [x] := by rw [← hX1b]; exact nums_one2 w0.drew HWX.out
              obtain ⟨B1, e1, X2, sun1, s1, g1, _⟩ := (RowI.nil hEX).app _ _ _ _ (HR1.out _ hEX) (by omega) 22
              rw [Nat.zero_add, List.nil_append] at s1
              rw [Nat.zero_add] at sun1
              have hN2 : Nums .i64 X2 (some ⟨w0.heap.size, 0, none⟩) 1 1 [x] := nums_up hNX ((E.refl X1).grown g1 (fun k hk => by cases hk))
              obtain ⟨B2, e2, X3, sun2, s2, _⟩ := s1.app _ _ _ _ hN2 (by omega) 22
              obtain ⟨B3, e3, X4, sun3, s3, _⟩ := s2.app _ _ _ _ (HR2.out X3 s2.2) (by omega) 22
              have HA3 := Lib.hid r3
              have HB3 := Lib.hid s3
              refine wp_region_held_drew (S := (fun W => W.cell? ⟨b, o + i, none⟩ = some (.int .i64 x))) (by kernel_rfl) (HS.out _ hEd) (fun hHeld => ?_)
              (((refine wpAnyH_take (i := 0) (v := ?_) rfl (by kernel_rfl) (by kernel_rfl) (by kernel_rfl) (fun _ _ _ h => h) (Or.inl ⟨by kernel_rfl, ?_⟩) (by assumption) ?_); rotate_left 1; (focus (intro w hSw; (try dsimp only at hSw); go_simp; (try with_reducible rfl))); (try simp only [Act.put, List.setIfInBounds_toArray, List.set_cons_zero, List.set_cons_succ])); ((refine wpAnyH_take (i := 1) (v := ?_) rfl (by kernel_rfl) (by kernel_rfl) (by kernel_rfl) (fun _ _ _ h => h) (Or.inl ⟨by kernel_rfl, ?_⟩) (by assumption) ?_); rotate_left 1; (focus (intro w hSw; (try dsimp only at hSw); go_simp; (try with_reducible rfl))); (try simp only [Act.put, List.setIfInBounds_toArray, List.set_cons_zero, List.set_cons_succ])); ((refine wpAnyH_take (i := 2) (v := ?_) rfl (by kernel_rfl) (by kernel_rfl) (by kernel_rfl) (fun _ _ _ h => h) (Or.inl ⟨by kernel_rfl, ?_⟩) (by assumption) ?_); rotate_left 1; (focus (intro w hSw; (try dsimp only at hSw); go_simp; (try with_reducible rfl))); (try simp only [Act.put, List.setIfInBounds_toArray, List.set_cons_zero, List.set_cons_succ])); ((refine wpAnyH_take (i := 3) (v := ?_) rfl (by kernel_rfl) (by kernel_rfl) (by kernel_rfl) (fun _ _ _ h => h) (Or.inl ⟨by kernel_rfl, ?_⟩) (by assumption) ?_); rotate_left 1; (focus (intro w hSw; (try dsimp only at hSw); go_simp; (try with_reducible rfl))); (try simp only [Act.put, List.setIfInBounds_toArray, List.set_cons_zero, List.set_cons_succ])); ((refine wpAnyH_take (i := 5) (v := ?_) rfl (by kernel_rfl) (by kernel_rfl) (by kernel_rfl) (fun _ _ _ h => h) (Or.inl ⟨by kernel_rfl, ?_⟩) (by assumption) ?_); rotate_left 1; (focus (intro w hSw; (try dsimp only at hSw); go_simp; (try with_reducible rfl))); (try simp only [Act.put, List.setIfInBounds_toArray, List.set_cons_zero, List.set_cons_succ])); ((refine wpAnyH_take (i := 6) (v := ?_) rfl (by kernel_rfl) (by kernel_rfl) (by kernel_rfl) (fun _ _ _ h => h) (Or.inl ⟨by kernel_rfl, ?_⟩) (by assumption) ?_); rotate_left 1; (focus (intro w hSw; (try dsimp only at hSw); go_simp; (try with_reducible rfl))); (try simp only [Act.put, List.setIfInBounds_toArray, List.set_cons_zero, List.set_cons_succ])); ((refine wpAnyH_take (i := 7) (v := ?_) rfl (by kernel_rfl) (by kernel_rfl) (by kernel_rfl) (fun _ _ _ h => h) (Or.inl ⟨by kernel_rfl, ?_⟩) (by assumption) ?_); rotate_left 1; (focus (intro w hSw; (try dsimp only at hSw); go_simp; (try with_reducible rfl))); (try simp only [Act.put, List.setIfInBounds_toArray, List.set_cons_zero, List.set_cons_succ])); ((refine wpAnyH_take (i := 8) (v := ?_) rfl (by kernel_rfl) (by kernel_rfl) (by kernel_rfl) (fun _ _ _ h => h) (Or.inl ⟨by kernel_rfl, ?_⟩) (by assumption) ?_); rotate_left 1; (focus (intro w hSw; (try dsimp only at hSw); go_simp; (try with_reducible rfl))); (try simp only [Act.put, List.setIfInBounds_toArray, List.set_cons_zero, List.set_cons_succ])); ((refine wpAnyH_take (i := 11) (v := ?_) rfl (by kernel_rfl) (by kernel_rfl) (by kernel_rfl) (fun _ _ _ h => h) (Or.inl ⟨by kernel_rfl, ?_⟩) (by assumption) ?_); rotate_left 1; (focus (intro w hSw; (try dsimp only at hSw); go_simp; (try with_reducible rfl))); (try simp only [Act.put, List.setIfInBounds_toArray, List.set_cons_zero, List.set_cons_succ])); ((refine wpAnyH_take (i := 12) (v := ?_) rfl (by kernel_rfl) (by kernel_rfl) (by kernel_rfl) (fun _ _ _ h => h) (Or.inl ⟨by kernel_rfl, ?_⟩) (by assumption) ?_); rotate_left 1; (focus (intro w hSw; (try dsimp only at hSw); go_simp; (try with_reducible rfl))); (try simp only [Act.put, List.setIfInBounds_toArray, List.set_cons_zero, List.set_cons_succ])); ((refine wpAnyH_take (i := 13) (v := ?_) rfl (by kernel_rfl) (by kernel_rfl) (by kernel_rfl) (fun _ _ _ h => h) (Or.inl ⟨by kernel_rfl, ?_⟩) (by assumption) ?_); rotate_left 1; (focus (intro w hSw; (try dsimp only at hSw); go_simp; (try with_reducible rfl))); (try simp only [Act.put, List.setIfInBounds_toArray, List.set_cons_zero, List.set_cons_succ])))
              simp only [List.getElem_toArray, List.getElem_cons_succ, List.getElem_cons_zero, Act.put, List.setIfInBounds_toArray, List.set_cons_zero, List.set_cons_succ]
              refine wpAnyH_ready (rs := [4, 9]) (by kernel_rfl) (by simp) ?_
              refine AllReadyH.cons rfl (fun K hK => ?_) (AllReadyH.cons rfl (fun K hK => ?_) AllReadyH.nil)
              · refine step_app_runQ (by rfl) _ _ (by rfl) (by rfl) (by rfl) run1 ?_
                refine hK _ _ (HS.out _ r1.2) (fun hh => ?_)
                clear hK K hHeld
                have hHeld := hh
                clear hh
                (try simp only [List.getElem_toArray, List.getElem_cons_succ, List.getElem_cons_zero, Act.put, List.setIfInBounds_toArray, List.set_cons_zero, List.set_cons_succ])
                (((refine wpAnyH_ready (rs := [9]) (by kernel_rfl) (by simp) ?_); (refine AllReadyH.cons rfl (fun K hK => ?_) AllReadyH.nil); (rw [if_pos (by kernel_rfl)]); go_simp))
                (try rw [hV2])
                refine hK _ _ (HS.out _ (r1.e_ hE12).2) (fun hh => ?_)
                clear hK K hHeld
                have hHeld := hh
                clear hh
                (try simp only [List.getElem_toArray, List.getElem_cons_succ, List.getElem_cons_zero, Act.put, List.setIfInBounds_toArray, List.set_cons_zero, List.set_cons_succ])
                refine wpAnyH_ready (rs := [10]) (by kernel_rfl) (by simp) ?_
                refine AllReadyH.cons rfl (fun K hK => ?_) AllReadyH.nil
                refine step_app_runQ (by rfl) _ _ (by rfl) (by rfl) (by rfl) run2 ?_
                refine hK _ _ (HS.out _ r2.2) (fun hh => ?_)
                clear hK K hHeld
                have hHeld := hh
                clear hh
                (try simp only [List.getElem_toArray, List.getElem_cons_succ, List.getElem_cons_zero, Act.put, List.setIfInBounds_toArray, List.set_cons_zero, List.set_cons_succ])
                refine wpAnyH_ready (rs := [14]) (by kernel_rfl) (by simp) ?_
                refine AllReadyH.cons rfl (fun K hK => ?_) AllReadyH.nil
                refine step_app_runQ (by rfl) _ _ (by rfl) (by rfl) (by rfl) run3 ?_
                refine hK _ _ (HS.out _ r3.2) (fun hh => ?_)
                clear hK K hHeld
                have hHeld := hh
                clear hh
                (try simp only [List.getElem_toArray, List.getElem_cons_succ, List.getElem_cons_zero, Act.put, List.setIfInBounds_toArray, List.set_cons_zero, List.set_cons_succ])
                (((refine wpAnyH_take (i := 15) (v := ?_) rfl (by kernel_rfl) (by kernel_rfl) (by kernel_rfl) (fun _ _ _ h => h) (Or.inl ⟨by kernel_rfl, ?_⟩) (by assumption) ?_); rotate_left 1; (focus (intro w hSw; (try dsimp only at hSw); go_simp; (try with_reducible rfl))); (try simp only [Act.put, List.setIfInBounds_toArray, List.set_cons_zero, List.set_cons_succ])))
                refine wpAnyH_done (by kernel_rfl) ?_ _
                go_simp
                clear hHeld
                go_wp2_with fail
                go_roundw
                case rel => exact ⟨i + 1, _, _, _, _, by omega, by go_num, rfl, (HA3.out.1.rebase (HEI.out.trans hE0).le).cast HR.out.symm, (HEI.out.trans hE0).trans HA3.out.2, rfl⟩
                case measure => simp [intOf]; omega
              · rw [if_pos (by kernel_rfl)]
                go_simp
                (try rw [hX1])
                (try rw [hX1b])
                refine hK _ _ (HS.out _ hEX) (fun hh => ?_)
                clear hK K hHeld
                have hHeld := hh
                clear hh
                (try simp only [List.getElem_toArray, List.getElem_cons_succ, List.getElem_cons_zero, Act.put, List.setIfInBounds_toArray, List.set_cons_zero, List.set_cons_succ])
                refine wpAnyH_ready (rs := [4]) (by kernel_rfl) (by simp) ?_
                refine AllReadyH.cons rfl (fun K hK => ?_) AllReadyH.nil
                refine step_app_runQ (by rfl) _ _ (by rfl) (by rfl) (by rfl) sun1 ?_
                refine hK _ _ (HS.out _ s1.2) (fun hh => ?_)
                clear hK K hHeld
                have hHeld := hh
                clear hh
                (try simp only [List.getElem_toArray, List.getElem_cons_succ, List.getElem_cons_zero, Act.put, List.setIfInBounds_toArray, List.set_cons_zero, List.set_cons_succ])
                refine wpAnyH_ready (rs := [10]) (by kernel_rfl) (by simp) ?_
                refine AllReadyH.cons rfl (fun K hK => ?_) AllReadyH.nil
                refine step_app_runQ (by rfl) _ _ (by rfl) (by rfl) (by rfl) sun2 ?_
                refine hK _ _ (HS.out _ s2.2) (fun hh => ?_)
                clear hK K hHeld
                have hHeld := hh
                clear hh
                (try simp only [List.getElem_toArray, List.getElem_cons_succ, List.getElem_cons_zero, Act.put, List.setIfInBounds_toArray, List.set_cons_zero, List.set_cons_succ])
                refine wpAnyH_ready (rs := [14]) (by kernel_rfl) (by simp) ?_
                refine AllReadyH.cons rfl (fun K hK => ?_) AllReadyH.nil
                refine step_app_runQ (by rfl) _ _ (by rfl) (by rfl) (by rfl) sun3 ?_
                refine hK _ _ (HS.out _ s3.2) (fun hh => ?_)
                clear hK K hHeld
                have hHeld := hh
                clear hh
                (try simp only [List.getElem_toArray, List.getElem_cons_succ, List.getElem_cons_zero, Act.put, List.setIfInBounds_toArray, List.set_cons_zero, List.set_cons_succ])
                (((refine wpAnyH_take (i := 15) (v := ?_) rfl (by kernel_rfl) (by kernel_rfl) (by kernel_rfl) (fun _ _ _ h => h) (Or.inl ⟨by kernel_rfl, ?_⟩) (by assumption) ?_); rotate_left 1; (focus (intro w hSw; (try dsimp only at hSw); go_simp; (try with_reducible rfl))); (try simp only [Act.put, List.setIfInBounds_toArray, List.set_cons_zero, List.set_cons_succ])))
                refine wpAnyH_done (by kernel_rfl) ?_ _
                go_simp
                clear hHeld
                go_wp2_with fail
                go_roundw
                case rel => exact ⟨i + 1, _, _, _, _, by omega, by go_num, rfl, (HB3.out.1.rebase (HEI.out.trans hE0).le).cast HR.out.symm, (HEI.out.trans hE0).trans HB3.out.2, rfl⟩
                case measure => simp [intOf]; omega
            · have hkc : (k : Int) ≤ (co : Int) := by omega
              have hkz : (0 : Int) ≤ (k : Int) := by omega
              by_cases hck : co = k
              · subst hck
                (refine wp_region_quiet_lit (by kernel_rfl) (by kernel_rfl) ?_; (repeat (first | ((with_reducible refine wpQuiet_step (fun K hK => ?_)); go_simp; (with_reducible refine hK _ ?_); clear hK K) | ((with_reducible refine wpQuiet_off (by kernel_rfl) (fun K hK => ?_)); go_simp; (with_reducible refine hK _ ?_); clear hK K))); (with_reducible refine wpQuiet_nil ?_); intro _ hw'; obtain ⟨nq, hw''⟩ := hw'; subst hw'')
                go_upto_region 10 with fail
                obtain ⟨w0, hw0⟩ : ∃ w0, ws.drewN nq = w0 := ⟨_, rfl⟩
                have hE0 : E wq w0 := by rw [← hw0]; exact (hE.trans hEs).drewN nq
                rw [hw0]
                clear hw0
                have HS := Lib.hid (fun W (hW : E w0 W) => HCX.out W (hE0.trans hW))
                have HR1 := Lib.hid (fun W (hW : E w0 W) => nums_take ((HOI.out.reads.e (hE0.trans hW))) (m := co) (by omega))
                have HR2 := Lib.hid (fun (W : World) (hW : E w0 W) => (Nums.nil .i64 W (some ⟨go, 0, none⟩) 0 (Nat.zero_le _)))
                have hEd : E w0 w0.drew := (E.refl w0).drew
                obtain ⟨A1, d1, V1, run1, r1, _⟩ := (RowI.nil hEd).app _ _ _ _ (HR1.out _ hEd) (by omega) 22
                rw [Nat.zero_add, List.nil_append] at r1
                rw [Nat.zero_add] at run1
                obtain ⟨V2, hV2⟩ : ∃ V2, V1.alloc (.cells #[.int .i64 x] 3) = V2 := ⟨_, rfl⟩
                have hE12 : E V1 V2 := by rw [← hV2]; exact (E.refl V1).alloc _
                obtain ⟨A2, d2, V3, run2, r2, _⟩ := (r1.e_ hE12).app _ _ _ _ (show Nums .i64 V2 (some ⟨V1.heap.size, 0, none⟩) 1 1 [x] by rw [← hV2]; exact nums_one2 V1 HWX.out) (by omega) 22
                obtain ⟨A3, d3, V4, run3, r3, _⟩ := r2.app _ _ _ _ (HR2.out V3 r2.2) (by omega) 22
                obtain ⟨X1, hX1⟩ : ∃ X1, (w0.alloc (.cells #[.int .i64 x] 3)).drew = X1 := ⟨_, rfl⟩
                have hX1b : w0.drew.alloc (.cells #[.int .i64 x] 3) = X1 := hX1
                have hEX : E w0 X1 := by rw [← hX1]; exact ((E.refl w0).alloc _).drew
                have hNX : Nums .i64 X1 (some ⟨w0.heap.size, 0, none⟩) 1 1 [x] := by rw [← hX1b]; exact nums_one2 w0.drew HWX.out
                obtain ⟨B1, e1, X2, sun1, s1, g1, _⟩ := (RowI.nil hEX).app _ _ _ _ (HR1.out _ hEX) (by omega) 22
                rw [Nat.zero_add, List.nil_append] at s1
                rw [Nat.zero_add] at sun1
                have hN2 : Nums .i64 X2 (some ⟨w0.heap.size, 0, none⟩) 1 1 [x] := nums_up hNX ((E.refl X1).grown g1 (fun k hk => by cases hk))
                obtain ⟨B2, e2, X3, sun2, s2, _⟩ := s1.app _ _ _ _ hN2 (by omega) 22
                obtain ⟨B3, e3, X4, sun3, s3, _⟩ := s2.app _ _ _ _ (HR2.out X3 s2.2) (by omega) 22
                have HA3 := Lib.hid r3
                have HB3 := Lib.hid s3
                refine wp_region_held_drew (S := (fun W => W.cell? ⟨b, o + i, none⟩ = some (.int .i64 x))) (by kernel_rfl) (HS.out _ hEd) (fun hHeld => ?_)
                (((refine wpAnyH_take (i := 0) (v := ?_) rfl (by kernel_rfl) (by kernel_rfl) (by kernel_rfl) (fun _ _ _ h => h) (Or.inl ⟨by kernel_rfl, ?_⟩) (by assumption) ?_); rotate_left 1; (focus (intro w hSw; (try dsimp only at hSw); go_simp; (try with_reducible rfl))); (try simp only [Act.put, List.setIfInBounds_toArray, List.set_cons_zero, List.set_cons_succ])); ((refine wpAnyH_take (i := 1) (v := ?_) rfl (by kernel_rfl) (by kernel_rfl) (by kernel_rfl) (fun _ _ _ h => h) (Or.inl ⟨by kernel_rfl, ?_⟩) (by assumption) ?_); rotate_left 1; (focus (intro w hSw; (try dsimp only at hSw); go_simp; (try with_reducible rfl))); (try simp only [Act.put, List.setIfInBounds_toArray, List.set_cons_zero, List.set_cons_succ])); ((refine wpAnyH_take (i := 2) (v := ?_) rfl (by kernel_rfl) (by kernel_rfl) (by kernel_rfl) (fun _ _ _ h => h) (Or.inl ⟨by kernel_rfl, ?_⟩) (by assumption) ?_); rotate_left 1; (focus (intro w hSw; (try dsimp only at hSw); go_simp; (try with_reducible rfl))); (try simp only [Act.put, List.setIfInBounds_toArray, List.set_cons_zero, List.set_cons_succ])); ((refine wpAnyH_take (i := 3) (v := ?_) rfl (by kernel_rfl) (by kernel_rfl) (by kernel_rfl) (fun _ _ _ h => h) (Or.inl ⟨by kernel_rfl, ?_⟩) (by assumption) ?_); rotate_left 1; (focus (intro w hSw; (try dsimp only at hSw); go_simp; (try with_reducible rfl))); (try simp only [Act.put, List.setIfInBounds_toArray, List.set_cons_zero, List.set_cons_succ])); ((refine wpAnyH_take (i := 5) (v := ?_) rfl (by kernel_rfl) (by kernel_rfl) (by kernel_rfl) (fun _ _ _ h => h) (Or.inl ⟨by kernel_rfl, ?_⟩) (by assumption) ?_); rotate_left 1; (focus (intro w hSw; (try dsimp only at hSw); go_simp; (try with_reducible rfl))); (try simp only [Act.put, List.setIfInBounds_toArray, List.set_cons_zero, List.set_cons_succ])); ((refine wpAnyH_take (i := 6) (v := ?_) rfl (by kernel_rfl) (by kernel_rfl) (by kernel_rfl) (fun _ _ _ h => h) (Or.inl ⟨by kernel_rfl, ?_⟩) (by assumption) ?_); rotate_left 1; (focus (intro w hSw; (try dsimp only at hSw); go_simp; (try with_reducible rfl))); (try simp only [Act.put, List.setIfInBounds_toArray, List.set_cons_zero, List.set_cons_succ])); ((refine wpAnyH_take (i := 7) (v := ?_) rfl (by kernel_rfl) (by kernel_rfl) (by kernel_rfl) (fun _ _ _ h => h) (Or.inl ⟨by kernel_rfl, ?_⟩) (by assumption) ?_); rotate_left 1; (focus (intro w hSw; (try dsimp only at hSw); go_simp; (try with_reducible rfl))); (try simp only [Act.put, List.setIfInBounds_toArray, List.set_cons_zero, List.set_cons_succ])); ((refine wpAnyH_take (i := 8) (v := ?_) rfl (by kernel_rfl) (by kernel_rfl) (by kernel_rfl) (fun _ _ _ h => h) (Or.inl ⟨by kernel_rfl, ?_⟩) (by assumption) ?_); rotate_left 1; (focus (intro w hSw; (try dsimp only at hSw); go_simp; (try with_reducible rfl))); (try simp only [Act.put, List.setIfInBounds_toArray, List.set_cons_zero, List.set_cons_succ])); ((refine wpAnyH_take (i := 11) (v := ?_) rfl (by kernel_rfl) (by kernel_rfl) (by kernel_rfl) (fun _ _ _ h => h) (Or.inl ⟨by kernel_rfl, ?_⟩) (by assumption) ?_); rotate_left 1; (focus (intro w hSw; (try dsimp only at hSw); go_simp; (try with_reducible rfl))); (try simp only [Act.put, List.setIfInBounds_toArray, List.set_cons_zero, List.set_cons_succ])); ((refine wpAnyH_take (i := 12) (v := ?_) rfl (by kernel_rfl) (by kernel_rfl) (by kernel_rfl) (fun _ _ _ h => h) (Or.inl ⟨by kernel_rfl, ?_⟩) (by assumption) ?_); rotate_left 1; (focus (intro w hSw; (try dsimp only at hSw); go_simp; (try with_reducible rfl))); (try simp only [Act.put, List.setIfInBounds_toArray, List.set_cons_zero, List.set_cons_succ])); ((refine wpAnyH_take (i := 13) (v := ?_) rfl (by kernel_rfl) (by kernel_rfl) (by kernel_rfl) (fun _ _ _ h => h) (Or.inl ⟨by kernel_rfl, ?_⟩) (by assumption) ?_); rotate_left 1; (focus (intro w hSw; (try dsimp only at hSw); go_simp; (try with_reducible rfl))); (try simp only [Act.put, List.setIfInBounds_toArray, List.set_cons_zero, List.set_cons_succ])))
                simp only [List.getElem_toArray, List.getElem_cons_succ, List.getElem_cons_zero, Act.put, List.setIfInBounds_toArray, List.set_cons_zero, List.set_cons_succ]
                refine wpAnyH_ready (rs := [4, 9]) (by kernel_rfl) (by simp) ?_
                refine AllReadyH.cons rfl (fun K hK => ?_) (AllReadyH.cons rfl (fun K hK => ?_) AllReadyH.nil)
                · refine step_app_runQ (by rfl) _ _ (by rfl) (by rfl) (by rfl) run1 ?_
                  refine hK _ _ (HS.out _ r1.2) (fun hh => ?_)
                  clear hK K hHeld
                  have hHeld := hh
                  clear hh
                  (try simp only [List.getElem_toArray, List.getElem_cons_succ, List.getElem_cons_zero, Act.put, List.setIfInBounds_toArray, List.set_cons_zero, List.set_cons_succ])
                  (((refine wpAnyH_ready (rs := [9]) (by kernel_rfl) (by simp) ?_); (refine AllReadyH.cons rfl (fun K hK => ?_) AllReadyH.nil); (rw [if_pos (by kernel_rfl)]); go_simp))
                  (try rw [hV2])
                  refine hK _ _ (HS.out _ (r1.e_ hE12).2) (fun hh => ?_)
                  clear hK K hHeld
                  have hHeld := hh
                  clear hh
                  (try simp only [List.getElem_toArray, List.getElem_cons_succ, List.getElem_cons_zero, Act.put, List.setIfInBounds_toArray, List.set_cons_zero, List.set_cons_succ])
                  refine wpAnyH_ready (rs := [10]) (by kernel_rfl) (by simp) ?_
                  refine AllReadyH.cons rfl (fun K hK => ?_) AllReadyH.nil
                  refine step_app_runQ (by rfl) _ _ (by rfl) (by rfl) (by rfl) run2 ?_
                  refine hK _ _ (HS.out _ r2.2) (fun hh => ?_)
                  clear hK K hHeld
                  have hHeld := hh
                  clear hh
                  (try simp only [List.getElem_toArray, List.getElem_cons_succ, List.getElem_cons_zero, Act.put, List.setIfInBounds_toArray, List.set_cons_zero, List.set_cons_succ])
                  refine wpAnyH_ready (rs := [14]) (by kernel_rfl) (by simp) ?_
                  refine AllReadyH.cons rfl (fun K hK => ?_) AllReadyH.nil
                  refine step_app_runQ (by rfl) _ _ (by rfl) (by rfl) (by rfl) run3 ?_
                  refine hK _ _ (HS.out _ r3.2) (fun hh => ?_)
                  clear hK K hHeld
                  have hHeld := hh
                  clear hh
                  (try simp only [List.getElem_toArray, List.getElem_cons_succ, List.getElem_cons_zero, Act.put, List.setIfInBounds_toArray, List.set_cons_zero, List.set_cons_succ])
                  (((refine wpAnyH_take (i := 15) (v := ?_) rfl (by kernel_rfl) (by kernel_rfl) (by kernel_rfl) (fun _ _ _ h => h) (Or.inl ⟨by kernel_rfl, ?_⟩) (by assumption) ?_); rotate_left 1; (focus (intro w hSw; (try dsimp only at hSw); go_simp; (try with_reducible rfl))); (try simp only [Act.put, List.setIfInBounds_toArray, List.set_cons_zero, List.set_cons_succ])))
                  refine wpAnyH_done (by kernel_rfl) ?_ _
                  go_simp
                  clear hHeld
                  go_wp2_with fail
                  go_roundw
                  case rel => exact ⟨i + 1, _, _, _, _, by omega, by go_num, rfl, (HA3.out.1.rebase (HEI.out.trans hE0).le).cast HR.out.symm, (HEI.out.trans hE0).trans HA3.out.2, rfl⟩
                  case measure => simp [intOf]; omega
                · rw [if_pos (by kernel_rfl)]
                  go_simp
                  (try rw [hX1])
                  (try rw [hX1b])
                  refine hK _ _ (HS.out _ hEX) (fun hh => ?_)
                  clear hK K hHeld
                  have hHeld := hh
                  clear hh
                  (try simp only [List.getElem_toArray, List.getElem_cons_succ, List.getElem_cons_zero, Act.put, List.setIfInBounds_toArray, List.set_cons_zero, List.set_cons_succ])
                  refine wpAnyH_ready (rs := [4]) (by kernel_rfl) (by simp) ?_
                  refine AllReadyH.cons rfl (fun K hK => ?_) AllReadyH.nil
                  refine step_app_runQ (by rfl) _ _ (by rfl) (by rfl) (by rfl) sun1 ?_
                  refine hK _ _ (HS.out _ s1.2) (fun hh => ?_)
                  clear hK K hHeld
                  have hHeld := hh
                  clear hh
                  (try simp only [List.getElem_toArray, List.getElem_cons_succ, List.getElem_cons_zero, Act.put, List.setIfInBounds_toArray, List.set_cons_zero, List.set_cons_succ])
                  refine wpAnyH_ready (rs := [10]) (by kernel_rfl) (by simp) ?_
                  refine AllReadyH.cons rfl (fun K hK => ?_) AllReadyH.nil
                  refine step_app_runQ (by rfl) _ _ (by rfl) (by rfl) (by rfl) sun2 ?_
                  refine hK _ _ (HS.out _ s2.2) (fun hh => ?_)
                  clear hK K hHeld
                  have hHeld := hh
                  clear hh
                  (try simp only [List.getElem_toArray, List.getElem_cons_succ, List.getElem_cons_zero, Act.put, List.setIfInBounds_toArray, List.set_cons_zero, List.set_cons_succ])
                  refine wpAnyH_ready (rs := [14]) (by kernel_rfl) (by simp) ?_
                  refine AllReadyH.cons rfl (fun K hK => ?_) AllReadyH.nil
                  refine step_app_runQ (by rfl) _ _ (by rfl) (by rfl) (by rfl) sun3 ?_
                  refine hK _ _ (HS.out _ s3.2) (fun hh => ?_)
                  clear hK K hHeld
                  have hHeld := hh
                  clear hh
                  (try simp only [List.getElem_toArray, List.getElem_cons_succ, List.getElem_cons_zero, Act.put, List.setIfInBounds_toArray, List.set_cons_zero, List.set_cons_succ])
                  (((refine wpAnyH_take (i := 15) (v := ?_) rfl (by kernel_rfl) (by kernel_rfl) (by kernel_rfl) (fun _ _ _ h => h) (Or.inl ⟨by kernel_rfl, ?_⟩) (by assumption) ?_); rotate_left 1; (focus (intro w hSw; (try dsimp only at hSw); go_simp; (try with_reducible rfl))); (try simp only [Act.put, List.setIfInBounds_toArray, List.set_cons_zero, List.set_cons_succ])))
                  refine wpAnyH_done (by kernel_rfl) ?_ _
                  go_simp
                  clear hHeld
                  go_wp2_with fail
                  go_roundw
                  case rel => exact ⟨i + 1, _, _, _, _, by omega, by go_num, rfl, (HB3.out.1.rebase (HEI.out.trans hE0).le).cast HR.out.symm, (HEI.out.trans hE0).trans HB3.out.2, rfl⟩
                  case measure => simp [intOf]; omega
              · have hck2 : ¬ co = k := hck
                (refine wp_region_quiet_lit (by kernel_rfl) (by kernel_rfl) ?_; (repeat (first | ((with_reducible refine wpQuiet_step (fun K hK => ?_)); go_simp; (with_reducible refine hK _ ?_); clear hK K) | ((with_reducible refine wpQuiet_off (by kernel_rfl) (fun K hK => ?_)); go_simp; (with_reducible refine hK _ ?_); clear hK K))); (with_reducible refine wpQuiet_nil ?_); intro _ hw'; obtain ⟨nq, hw''⟩ := hw'; subst hw'')
                go_upto_region 10 with fail
                obtain ⟨w0, hw0⟩ : ∃ w0, ws.drewN nq = w0 := ⟨_, rfl⟩
                have hE0 : E wq w0 := by rw [← hw0]; exact (hE.trans hEs).drewN nq
                rw [hw0]
                clear hw0
                have HS := Lib.hid (fun W (hW : E w0 W) => HCX.out W (hE0.trans hW))
                have HR1 := Lib.hid (fun W (hW : E w0 W) => nums_take ((HOI.out.reads.e (hE0.trans hW))) (m := k) (by omega))
                have HR2 := Lib.hid (fun (W : World) (hW : E w0 W) => (Nums.nil .i64 W (some ⟨go, k, none⟩) (co - k) (by omega)))
                have hEd : E w0 w0.drew := (E.refl w0).drew
                obtain ⟨A1, d1, V1, run1, r1, _⟩ := (RowI.nil hEd).app _ _ _ _ (HR1.out _ hEd) (by omega) 22
                rw [Nat.zero_add, List.nil_append] at r1
                rw [Nat.zero_add] at run1
                obtain ⟨V2, hV2⟩ : ∃ V2, V1.alloc (.cells #[.int .i64 x] 3) = V2 := ⟨_, rfl⟩
                have hE12 : E V1 V2 := by rw [← hV2]; exact (E.refl V1).alloc _
                obtain ⟨A2, d2, V3, run2, r2, _⟩ := (r1.e_ hE12).app _ _ _ _ (show Nums .i64 V2 (some ⟨V1.heap.size, 0, none⟩) 1 1 [x] by rw [← hV2]; exact nums_one2 V1 HWX.out) (by omega) 22
                obtain ⟨A3, d3, V4, run3, r3, _⟩ := r2.app _ _ _ _ (HR2.out V3 r2.2) (by omega) 22
                obtain ⟨X1, hX1⟩ : ∃ X1, (w0.alloc (.cells #[.int .i64 x] 3)).drew = X1 := ⟨_, rfl⟩
                have hX1b : w0.drew.alloc (.cells #[.int .i64 x] 3) = X1 := hX1
                have hEX : E w0 X1 := by rw [← hX1]; exact ((E.refl w0).alloc _).drew
                have hNX : Nums .i64 X1 (some ⟨w0.heap.size, 0, none⟩) 1 1 [x] := by rw [← hX1b]; exact nums_one2 w0.drew HWX.out
                obtain ⟨B1, e1, X2, sun1, s1, g1, _⟩ := (RowI.nil hEX).app _ _ _ _ (HR1.out _ hEX) (by omega) 22
                rw [Nat.zero_add, List.nil_append] at s1
                rw [Nat.zero_add] at sun1
                have hN2 : Nums .i64 X2 (some ⟨w0.heap.size, 0, none⟩) 1 1 [x] := nums_up hNX ((E.refl X1).grown g1 (fun k hk => by cases hk))
                obtain ⟨B2, e2, X3, sun2, s2, _⟩ := s1.app _ _ _ _ hN2 (by omega) 22
                obtain ⟨B3, e3, X4, sun3, s3, _⟩ := s2.app _ _ _ _ (HR2.out X3 s2.2) (by omega) 22
                have HA3 := Lib.hid r3
                have HB3 := Lib.hid s3
                refine wp_region_held_drew (S := (fun W => W.cell? ⟨b, o + i, none⟩ = some (.int .i64 x))) (by kernel_rfl) (HS.out _ hEd) (fun hHeld => ?_)
                (((refine wpAnyH_take (i := 0) (v := ?_) rfl (by kernel_rfl) (by kernel_rfl) (by kernel_rfl) (fun _ _ _ h => h) (Or.inl ⟨by kernel_rfl, ?_⟩) (by assumption) ?_); rotate_left 1; (focus (intro w hSw; (try dsimp only at hSw); go_simp; (try with_reducible rfl))); (try simp only [Act.put, List.setIfInBounds_toArray, List.set_cons_zero, List.set_cons_succ])); ((refine wpAnyH_take (i := 1) (v := ?_) rfl (by kernel_rfl) (by kernel_rfl) (by kernel_rfl) (fun _ _ _ h => h) (Or.inl ⟨by kernel_rfl, ?_⟩) (by assumption) ?_); rotate_left 1; (focus (intro w hSw; (try dsimp only at hSw); go_simp; (try with_reducible rfl))); (try simp only [Act.put, List.setIfInBounds_toArray, List.set_cons_zero, List.set_cons_succ])); ((refine wpAnyH_take (i := 2) (v := ?_) rfl (by kernel_rfl) (by kernel_rfl) (by kernel_rfl) (fun _ _ _ h => h) (Or.inl ⟨by kernel_rfl, ?_⟩) (by assumption) ?_); rotate_left 1; (focus (intro w hSw; (try dsimp only at hSw); go_simp; (try with_reducible rfl))); (try simp only [Act.put, List.setIfInBounds_toArray, List.set_cons_zero, List.set_cons_succ])); ((refine wpAnyH_take (i := 3) (v := ?_) rfl (by kernel_rfl) (by kernel_rfl) (by kernel_rfl) (fun _ _ _ h => h) (Or.inl ⟨by kernel_rfl, ?_⟩) (by assumption) ?_); rotate_left 1; (focus (intro w hSw; (try dsimp only at hSw); go_simp; (try with_reducible rfl))); (try simp only [Act.put, List.setIfInBounds_toArray, List.set_cons_zero, List.set_cons_succ])); ((refine wpAnyH_take (i := 5) (v := ?_) rfl (by kernel_rfl) (by kernel_rfl) (by kernel_rfl) (fun _ _ _ h => h) (Or.inl ⟨by kernel_rfl, ?_⟩) (by assumption) ?_); rotate_left 1; (focus (intro w hSw; (try dsimp only at hSw); go_simp; (try with_reducible rfl))); (try simp only [Act.put, List.setIfInBounds_toArray, List.set_cons_zero, List.set_cons_succ])); ((refine wpAnyH_take (i := 6) (v := ?_) rfl (by kernel_rfl) (by kernel_rfl) (by kernel_rfl) (fun _ _ _ h => h) (Or.inl ⟨by kernel_rfl, ?_⟩) (by assumption) ?_); rotate_left 1; (focus (intro w hSw; (try dsimp only at hSw); go_simp; (try with_reducible rfl))); (try simp only [Act.put, List.setIfInBounds_toArray, List.set_cons_zero, List.set_cons_succ])); ((refine wpAnyH_take (i := 7) (v := ?_) rfl (by kernel_rfl) (by kernel_rfl) (by kernel_rfl) (fun _ _ _ h => h) (Or.inl ⟨by kernel_rfl, ?_⟩) (by assumption) ?_); rotate_left 1; (focus (intro w hSw; (try dsimp only at hSw); go_simp; (try with_reducible rfl))); (try simp only [Act.put, List.setIfInBounds_toArray, List.set_cons_zero, List.set_cons_succ])); ((refine wpAnyH_take (i := 8) (v := ?_) rfl (by kernel_rfl) (by kernel_rfl) (by kernel_rfl) (fun _ _ _ h => h) (Or.inl ⟨by kernel_rfl, ?_⟩) (by assumption) ?_); rotate_left 1; (focus (intro w hSw; (try dsimp only at hSw); go_simp; (try with_reducible rfl))); (try simp only [Act.put, List.setIfInBounds_toArray, List.set_cons_zero, List.set_cons_succ])); ((refine wpAnyH_take (i := 11) (v := ?_) rfl (by kernel_rfl) (by kernel_rfl) (by kernel_rfl) (fun _ _ _ h => h) (Or.inl ⟨by kernel_rfl, ?_⟩) (by assumption) ?_); rotate_left 1; (focus (intro w hSw; (try dsimp only at hSw); go_simp; (try with_reducible rfl))); (try simp only [Act.put, List.setIfInBounds_toArray, List.set_cons_zero, List.set_cons_succ])); ((refine wpAnyH_take (i := 12) (v := ?_) rfl (by kernel_rfl) (by kernel_rfl) (by kernel_rfl) (fun _ _ _ h => h) (Or.inl ⟨by kernel_rfl, ?_⟩) (by assumption) ?_); rotate_left 1; (focus (intro w hSw; (try dsimp only at hSw); go_simp; (try with_reducible rfl))); (try simp only [Act.put, List.setIfInBounds_toArray, List.set_cons_zero, List.set_cons_succ])); ((refine wpAnyH_take (i := 13) (v := ?_) rfl (by kernel_rfl) (by kernel_rfl) (by kernel_rfl) (fun _ _ _ h => h) (Or.inl ⟨by kernel_rfl, ?_⟩) (by assumption) ?_); rotate_left 1; (focus (intro w hSw; (try dsimp only at hSw); go_simp; (try with_reducible rfl))); (try simp only [Act.put, List.setIfInBounds_toArray, List.set_cons_zero, List.set_cons_succ])))
                simp only [List.getElem_toArray, List.getElem_cons_succ, List.getElem_cons_zero, Act.put, List.setIfInBounds_toArray, List.set_cons_zero, List.set_cons_succ]
                refine wpAnyH_ready (rs := [4, 9]) (by kernel_rfl) (by simp) ?_
                refine AllReadyH.cons rfl (fun K hK => ?_) (AllReadyH.cons rfl (fun K hK => ?_) AllReadyH.nil)
                · refine step_app_runQ (by rfl) _ _ (by rfl) (by rfl) (by rfl) run1 ?_
                  refine hK _ _ (HS.out _ r1.2) (fun hh => ?_)
                  clear hK K hHeld
                  have hHeld := hh
                  clear hh
                  (try simp only [List.getElem_toArray, List.getElem_cons_succ, List.getElem_cons_zero, Act.put, List.setIfInBounds_toArray, List.set_cons_zero, List.set_cons_succ])
                  (((refine wpAnyH_ready (rs := [9]) (by kernel_rfl) (by simp) ?_); (refine AllReadyH.cons rfl (fun K hK => ?_) AllReadyH.nil); (rw [if_pos (by kernel_rfl)]); go_simp))
                  (try rw [hV2])
                  refine hK _ _ (HS.out _ (r1.e_ hE12).2) (fun hh => ?_)
                  clear hK K hHeld
                  have hHeld := hh
                  clear hh
                  (try simp only [List.getElem_toArray, List.getElem_cons_succ, List.getElem_cons_zero, Act.put, List.setIfInBounds_toArray, List.set_cons_zero, List.set_cons_succ])
                  refine wpAnyH_ready (rs := [10]) (by kernel_rfl) (by simp) ?_
                  refine AllReadyH.cons rfl (fun K hK => ?_) AllReadyH.nil
                  refine step_app_runQ (by rfl) _ _ (by rfl) (by rfl) (by rfl) run2 ?_
                  refine hK _ _ (HS.out _ r2.2) (fun hh => ?_)
                  clear hK K hHeld
                  have hHeld := hh
                  clear hh
                  (try simp only [List.getElem_toArray, List.getElem_cons_succ, List.getElem_cons_zero, Act.put, List.setIfInBounds_toArray, List.set_cons_zero, List.set_cons_succ])
                  refine wpAnyH_ready (rs := [14]) (by kernel_rfl) (by simp) ?_
                  refine AllReadyH.cons rfl (fun K hK => ?_) AllReadyH.nil
                  refine step_app_runQ (by rfl) _ _ (by rfl) (by rfl) (by rfl) run3 ?_
                  refine hK _ _ (HS.out _ r3.2) (fun hh => ?_)
                  clear hK K hHeld
                  have hHeld := hh
                  clear hh
                  (try simp only [List.getElem_toArray, List.getElem_cons_succ, List.getElem_cons_zero, Act.put, List.setIfInBounds_toArray, List.set_cons_zero, List.set_cons_succ])
                  (((refine wpAnyH_take (i := 15) (v := ?_) rfl (by kernel_rfl) (by kernel_rfl) (by kernel_rfl) (fun _ _ _ h => h) (Or.inl ⟨by kernel_rfl, ?_⟩) (by assumption) ?_); rotate_left 1; (focus (intro w hSw; (try dsimp only at hSw); go_simp; (try with_reducible rfl))); (try simp only [Act.put, List.setIfInBounds_toArray, List.set_cons_zero, List.set_cons_succ])))
                  refine wpAnyH_done (by kernel_rfl) ?_ _
                  go_simp
                  clear hHeld
                  go_wp2_with fail
                  go_roundw
                  case rel => exact ⟨i + 1, _, _, _, _, by omega, by go_num, rfl, (HA3.out.1.rebase (HEI.out.trans hE0).le).cast HR.out.symm, (HEI.out.trans hE0).trans HA3.out.2, rfl⟩
                  case measure => simp [intOf]; omega
                · rw [if_pos (by kernel_rfl)]
                  go_simp
                  (try rw [hX1])
                  (try rw [hX1b])
                  refine hK _ _ (HS.out _ hEX) (fun hh => ?_)
                  clear hK K hHeld
                  have hHeld := hh
                  clear hh
                  (try simp only [List.getElem_toArray, List.getElem_cons_succ, List.getElem_cons_zero, Act.put, List.setIfInBounds_toArray, List.set_cons_zero, List.set_cons_succ])
                  refine wpAnyH_ready (rs := [4]) (by kernel_rfl) (by simp) ?_
                  refine AllReadyH.cons rfl (fun K hK => ?_) AllReadyH.nil
                  refine step_app_runQ (by rfl) _ _ (by rfl) (by rfl) (by rfl) sun1 ?_
                  refine hK _ _ (HS.out _ s1.2) (fun hh => ?_)
                  clear hK K hHeld
                  have hHeld := hh
                  clear hh
                  (try simp only [List.getElem_toArray, List.getElem_cons_succ, List.getElem_cons_zero, Act.put, List.setIfInBounds_toArray, List.set_cons_zero, List.set_cons_succ])
                  refine wpAnyH_ready (rs := [10]) (by kernel_rfl) (by simp) ?_
                  refine AllReadyH.cons rfl (fun K hK => ?_) AllReadyH.nil
                  refine step_app_runQ (by rfl) _ _ (by rfl) (by rfl) (by rfl) sun2 ?_
                  refine hK _ _ (HS.out _ s2.2) (fun hh => ?_)
                  clear hK K hHeld
                  have hHeld := hh
                  clear hh
                  (try simp only [List.getElem_toArray, List.getElem_cons_succ, List.getElem_cons_zero, Act.put, List.setIfInBounds_toArray, List.set_cons_zero, List.set_cons_succ])
                  refine wpAnyH_ready (rs := [14]) (by kernel_rfl) (by simp) ?_
                  refine AllReadyH.cons rfl (fun K hK => ?_) AllReadyH.nil
                  refine step_app_runQ (by rfl) _ _ (by rfl) (by rfl) (by rfl) sun3 ?_
                  refine hK _ _ (HS.out _ s3.2) (fun hh => ?_)
                  clear hK K hHeld
                  have hHeld := hh
                  clear hh
                  (try simp only [List.getElem_toArray, List.getElem_cons_succ, List.getElem_cons_zero, Act.put, List.setIfInBounds_toArray, List.set_cons_zero, List.set_cons_succ])
                  (((refine wpAnyH_take (i := 15) (v := ?_) rfl (by kernel_rfl) (by kernel_rfl) (by kernel_rfl) (fun _ _ _ h => h) (Or.inl ⟨by kernel_rfl, ?_⟩) (by assumption) ?_); rotate_left 1; (focus (intro w hSw; (try dsimp only at hSw); go_simp; (try with_reducible rfl))); (try simp only [Act.put, List.setIfInBounds_toArray, List.set_cons_zero, List.set_cons_succ])))
                  refine wpAnyH_done (by kernel_rfl) ?_ _
                  go_simp
                  clear hHeld
                  go_wp2_with fail
                  go_roundw
                  case rel => exact ⟨i + 1, _, _, _, _, by omega, by go_num, rfl, (HB3.out.1.rebase (HEI.out.trans hE0).le).cast HR.out.symm, (HEI.out.trans hE0).trans HB3.out.2, rfl⟩
                  case measure => simp [intOf]; omega
    · have hin : l.take i = l := List.take_of_length_le (by have := HA.out.len; omega)
      have HF := Lib.hid (show out = sortI l by rw [hout.out, hin])
      clear hin hout
      go_wp2_with fail
      go_ret
      exact RetOwn.mk_ HF.out.symm hO hE
end Go.Proofs.Ytmeplpiamkaniaa
/- Ancestors of the model. -/
namespace Go.Proofs.Ytmeplpiamkaniaa
set_option linter.unusedVariables false
set_option linter.unusedSimpArgs false
open Go.RowKit

theorem ancU_inG {fs : List Fl} (hg : GOk fs) {x : Lt} (hx : hasF fs x = true) {u : Un} (h : AncU fs x u) : InG fs u := by
  induction h with
  | base h1 => exact hasF_units hx _ h1
  | src _ h2 _ => exact (hg.src h2).1
  | made _ _ _ h4 h5 _ =>
    have h := hasF_units (whole_has hg h4) _ (by rw [whole_eq h4]; exact h5)
    exact h
theorem ancI_get {fs : List Fl} (hg : GOk fs) {x : Lt} (hx : hasF fs x = true) {i : Int} (h : AncI fs x i) : ∃ q, getF fs i = some q := by
  obtain ⟨u, hu, rfl⟩ := h
  obtain ⟨f, h1, _⟩ := ancU_inG hg hx hu
  exact ⟨f, h1⟩
theorem sorted_nd {P : Int → Prop} {l : List Int} (h : Sorted P l) : l.Nodup := List.Pairwise.imp (fun h e => by omega) h.srt
theorem anc_len {fs : List Fl} (hg : GOk fs) {x : Lt} (hx : hasF fs x = true) {l : List Int} (h : Sorted (AncI fs x) l) : l.length ≤ fs.length :=
  lead_len (sorted_nd h) fun j hj => ancI_get hg hx ((h.mem j).1 hj)
theorem ownI_one {w : World} {x : Int} (hx : (Lit.int .i64 x).wf = true) : Own .i64 3 (w.alloc (.cells #[.int .i64 x] 3)) w.heap.size (some ⟨w.heap.size, 0, none⟩) 1 1 [x] :=
  ⟨rfl, ⟨rfl, .inr ⟨w.heap.size, 1, _, rfl, Nat.le_refl _, heap_alloc_new w _, Nat.le_refl _, by unfold maxLen; omega, rfl, rfl⟩⟩, by intro y hy; rw [List.mem_singleton] at hy; subst hy; exact hx⟩
/-- what has been gathered: the flow itself, the first i sources' and the first j ingredients' ancestors -/
structure AnG (fs : List Fl) (x : Lt) (s : List Lt) (made : List Int) (i j : Nat) (out : List Int) : Prop where
  mem : ∀ a, a ∈ out ↔ a = x.1 ∨ (∃ y ∈ s.take i, AncI fs y a) ∨ ∃ z ∈ made.take j, AncI fs (wholeF fs z) a 
  len : out.length ≤ 1 + (i + j) * 10
section
variable {fs : List Fl} {x : Lt} {s : List Lt} {made : List Int} {i j : Nat} {out : List Int}
theorem AnG.start (fs : List Fl) (x : Lt) (s : List Lt) (made : List Int) : AnG fs x s made 0 0 [x.1] := ⟨fun a => by simp, by simp⟩
theorem AnG.src (h : AnG fs x s made i j out) {y : Lt} (hy : s[i]? = some y) {l : List Int} (hl : Sorted (AncI fs y) l) (hn : l.length ≤ 10) : AnG fs x s made (i + 1) j (out ++ l) := by
  refine ⟨fun a => ?_, by rw [List.length_append]; have := h.len; omega⟩
  rw [List.mem_append, h.mem, hl.mem, take_snoc hy]
  constructor
  · rintro ((h1 | ⟨z, hz, h1⟩ | h1) | h1)
    · exact .inl h1
    · exact .inr (.inl ⟨z, List.mem_append_left _ hz, h1⟩)
    · exact .inr (.inr h1)
    · exact .inr (.inl ⟨y, by simp, h1⟩)
  · rintro (h1 | ⟨z, hz, h1⟩ | h1)
    · exact .inl (.inl h1)
    · rcases List.mem_append.1 hz with hz | hz
      · exact .inl (.inr (.inl ⟨z, hz, h1⟩))
      · rw [List.mem_singleton] at hz; subst hz; exact .inr h1
    · exact .inl (.inr (.inr h1))
theorem AnG.made_ (h : AnG fs x s made i j out) {z : Int} (hz : made[j]? = some z) {l : List Int} (hl : Sorted (AncI fs (wholeF fs z)) l) (hn : l.length ≤ 10) : AnG fs x s made i (j + 1) (out ++ l) := by
  refine ⟨fun a => ?_, by rw [List.length_append]; have := h.len; omega⟩
  rw [List.mem_append, h.mem, hl.mem, take_snoc hz]
  constructor
  · rintro ((h1 | h1 | ⟨y, hy, h1⟩) | h1)
    · exact .inl h1
    · exact .inr (.inl h1)
    · exact .inr (.inr ⟨y, List.mem_append_left _ hy, h1⟩)
    · exact .inr (.inr ⟨z, by simp, h1⟩)
  · rintro (h1 | h1 | ⟨y, hy, h1⟩)
    · exact .inl (.inl h1)
    · exact .inl (.inr (.inl h1))
    · rcases List.mem_append.1 hy with hy | hy
      · exact .inl (.inr (.inr ⟨y, hy, h1⟩))
      · rw [List.mem_singleton] at hy; subst hy; exact .inr h1
theorem AnG.done {f : Fl} (h : AnG fs x s f.made s.length f.made.length out) (hg : GOk fs) (hf : getF fs x.1 = some f) (hx : hasF fs x = true) (hs : srcF fs x = s) : Sorted (AncI fs x) (sortI out) := by
  have h1 := sortI_sorted out
  refine ⟨h1.srt, fun a => (h1.mem a).trans ?_⟩
  rw [h.mem, anc_iff hg hx hf, hs, List.take_length, List.take_length]
end
end Go.Proofs.Ytmeplpiamkaniaa
/- Ancestors of the model: the walk. -/
namespace Go.Proofs.Ytmeplpiamkaniaa
set_option linter.unusedVariables false
set_option linter.unusedSimpArgs false
open Go.RowKit

set_option linter.unusedSimpArgs false in
set_option maxHeartbeats 16000000 in
set_option maxRecDepth 100000 in
theorem ranc_c (fs : List Fl) (rk : Int → Nat) (hg : GOk fs) (hrk : ∀ f ∈ fs, ∀ j ∈ refsF f, rk j < rk f.id) (hn : cntU fs ≤ 3000) (hl : fs.length ≤ 10) (hm5 : ∀ f ∈ fs, f.made.length ≤ 500) : ∀ (m : Nat) (A : Option Addr) (n c : Nat) (x : Lt) (w : World), rk x.1 < m → FlowsAt w A n c fs → WfL x → hasF fs x = true →
    Calls Try.prog 65 #[.slice A n c, ltV x] w (RetSorted w (AncI fs x)) := by
  intro m
  induction m with
  | zero => intro A n c x w hm; exact absurd hm (Nat.not_lt_zero _)
  | succ m ih =>
  intro A n c x w hm h hx hh
  obtain ⟨w1, hw1⟩ : ∃ w1, w.alloc (.cells #[.int .i64 x.1, .int .i64 x.2.1, .int .i64 x.2.2] 32) = w1 := ⟨_, rfl⟩
  have hE1 : E w w1 := by rw [← hw1]; exact (E.refl w).alloc _
  have hbx : LtBox w1 w.heap.size x := by rw [← hw1]; exact LtBox.new w x
  obtain ⟨w2, hw2⟩ : ∃ w2, w1.alloc (.cells #[.int .i64 x.1] 3) = w2 := ⟨_, rfl⟩
  have hE2 : E w1 w2 := by rw [← hw2]; exact (E.refl w1).alloc _
  have HO2 := Lib.hid (show RowI w1 w2 (some ⟨w1.heap.size, 0, none⟩) 1 1 [x.1] from ⟨by rw [← hw2]; exact ownI_one hx.1, hE2⟩)
  have HSO := Lib.hid (refSources_c A n c fs x w2 (h.e (hE1.trans hE2)) hx hg)
  rw [hh, if_pos rfl] at HSO
  obtain ⟨f, hf, hfm, hfi, _, hn1, _⟩ := has_get hh
  obtain ⟨p, hp, hfp⟩ := pos_of_get hf
  have HFI := Lib.hid (fun W (hE : E w W) => show Calls Try.prog 60 #[.slice A n c, .int .i64 x.1] W fun e w' => e = .returned (.int .i64 (p : Int)) ∧ W = w' by
    have h1 := find_c A n c fs x.1 W (h.e hE)
    rw [findI, hp] at h1
    exact h1)
  have hpn : p < n := by rw [← h.len]; exact (List.getElem?_eq_some_iff.1 hfp).1
  obtain ⟨s, hs⟩ : ∃ s, srcF fs x = s := ⟨_, rfl⟩
  have HSH := Lib.hid (fun y (hy : y ∈ s) => show hasF fs y = true ∧ rk y.1 < m by
    rw [← hs] at hy
    have h1 := srcF_refs hg hf y hy
    have h2 := hrk f hfm y.1 h1
    rw [hfi] at h2
    exact ⟨srcF_has hg y hy, by omega⟩)
  have HSL := Lib.hid (show s.length ≤ 3000 by
    have h1 := glue_len_le ((ul x).filterMap (srcU fs))
    have h2 := List.length_filterMap_le (srcU fs) (ul x)
    rw [ul_len] at h2
    have h3 := (has_n hh).1
    rw [← hs]
    exact Nat.le_trans h1 (by omega))
  have HMD := Lib.hid (fun j (hj : j ∈ f.made) => show (∃ g, getF fs j = some g) ∧ rk j < m by
    have h1 : j ∈ refsF f := List.mem_append_right _ hj
    have h2 := hrk f hfm j h1
    rw [hfi] at h2
    exact ⟨hg.refs hfm h1, by omega⟩)
  have HM5 := Lib.hid (hm5 f hfm)
  have HDN := Lib.hid (fun out (ho : AnG fs x s f.made s.length f.made.length out) => AnG.done ho hg hf hh hs)
  rw [hs] at HSO
  obtain ⟨b3, o3, f3, s3, ⟨Am, nm, cm⟩, hAe, hb3, hq3, _, hcq3, hfb3⟩ := h.get hpn
  rw [hfp] at hq3
  injection hq3 with hq3
  subst hq3
  have HC3 := Lib.hid (fun W (hE : E w W) => hcq3.e hE hb3)
  have HM3 := Lib.hid (fun W (hE : E w W) => show Nums .i64 W Am nm cm f.made from (hfb3.e hE).2)
  have hm63 : nm ≤ 9223372036854775807 := hfb3.2.n63
  have HML := Lib.hid (show f.made.length = nm from hfb3.2.len)
  have hE1c := hE1
  have HE1 := Lib.hid hE1
  have HBX := Lib.hid hbx
  have HA := Lib.hid h
  have HX := Lib.hid hx
  have HG := Lib.hid hg
  have HFP := Lib.hid hfp
  have HL10 := Lib.hid hl
  have HN3 := Lib.hid hn
  have hn63 := h.n63
  have HE12 := Lib.hid (hE1.trans hE2)
  have HE2 := Lib.hid hE2
  obtain ⟨c0, c1, c2⟩ := hbx.cells
  have HPOS := Lib.hid (fun z (hz : z ∈ f.made) => show ∃ g pz, getF fs z = some g ∧ fs[pz]? = some g ∧ pz < n ∧ (∀ W, E w W → Calls Try.prog 60 #[.slice A n c, .int .i64 z] W fun e w' => e = .returned (.int .i64 (pz : Int)) ∧ W = w') ∧ hasF fs (z, 0, g.n) = true ∧ WfL (z, 0, g.n) ∧ rk z < m ∧ ∀ W, E w W → W.cell? ⟨b3, o3 + pz * 11 + 8, none⟩ = some (.int .i64 g.n) from by
    obtain ⟨⟨g, hgz⟩, hrz⟩ := HMD.out z hz
    obtain ⟨pz, hpz, hfz⟩ := pos_of_get hgz
    have hpzn : pz < n := by rw [← h.len]; exact (List.getElem?_eq_some_iff.1 hfz).1
    have hwh := whole_has hg hgz
    rw [whole_eq hgz] at hwh
    refine ⟨g, pz, hgz, hfz, hpzn, fun W hE => ?_, hwh, (has_wf h.wf hwh).1, hrz, fun W hE => ?_⟩
    · have h1 := find_c A n c fs z W (h.e hE)
      rw [findI, hpz] at h1
      exact h1
    · obtain ⟨b5, o5, f5, s5, t5, hA5, _, hq5, _, hcq5, _⟩ := (h.e hE).get hpzn
      rw [hfz] at hq5
      injection hq5 with hq5
      subst hq5
      rw [hAe] at hA5
      injection hA5 with hA5
      injection hA5 with hA5 hA5'
      subst hA5 hA5'
      unfold FlCells at hcq5
      exact hcq5.2.2.2.2.2.2.2.2.1)
  subst hAe
  clear hm h hx hh hE1 hE2 hbx hf hfm hfi hn1 hp hfp hs hl hn hm5 hcq3 hfb3 hE1c
  unfold ltV at *
  go_enter Try.func65, Try.ntmps65
  go_upto_region 1 with fail
  try rw [hw1]
  clear hw1
  go_upto_region 2 with fail
  try rw [hw2]
  clear hw2 c0 c1 c2
  obtain ⟨c0, c1, c2⟩ := (HBX.out.e HE2.out).cells
  go_upto_region 3 with (go_at_call 18; refine HSO.out.mono ?_; rintro e w3 ⟨A6, n6, c6, rfl, hO6, hE3⟩)
  have HN6 := Lib.hid hO6.1
  have R6 := Lib.hid hO6.reads
  have hn6 := hO6.reads.n63
  have HR3 := Lib.hid (HO2.out.e_ hE3)
  have HAP := Lib.hid (show 0 < n6 → ob A6 ≠ ob (some (⟨w1.heap.size, 0, none⟩ : Addr)) from fun h0 e => by
    have h1 := (HE2.out.le)
    have h2 := (hO6.ltN w1.heap.size (by rw [e]; rfl)).1
    have h3 := (HO2.out.1.ltN w1.heap.size rfl).2
    omega)
  have HE13 := Lib.hid (HE2.out.trans hE3)
  clear hO6 hE3 c0 c1 c2
  go_wp2_with fail
  go_loopw [5, 7] (fun t5 t7 wr => ∃ (i n5 c5 : Nat) (A5 : Option Addr) (out : List Int), i ≤ n6 ∧ t7 = .int .i64 i ∧ t5 = .slice A5 n5 c5 ∧ RowI w1 wr A5 n5 c5 out ∧ LotsAt wr A6 n6 c6 s ∧ (0 < n6 → ob A6 ≠ ob A5) ∧ Hid (AnG fs x s f.made i 0 out)) (fun _ t7 _ => n6 - (intOf t7).toNat)
  case atStart => exact ⟨0, 1, 1, _, [x.1], Nat.zero_le _, rfl, rfl, HR3.out, R6.out, HAP.out, AnG.start fs x s f.made⟩
  case round =>
    obtain ⟨i, n5, c5, A5, out, hi, rfl, rfl, hO, hS, hap, hA⟩ := hrel
    by_cases hlt : i < n6
    · obtain ⟨b, o, y, rfl, hb, hy, hwy, d0, d1, d2⟩ := hS.get hlt
      have hiI : (i : Int) < (n6 : Int) := by omega
      obtain ⟨hyh, hyr⟩ := HSH.out y (List.mem_of_getElem? hy)
      have HIH := Lib.hid (ih _ n c y wr hyr (HA.out.e (HE1.out.trans hO.2)) hwy hyh)
      have HYH := Lib.hid hyh
      have HY := Lib.hid hy
      have HOI := Lib.hid hO
      have HS := Lib.hid hS
      have HAPI := Lib.hid hap
      have HAI := Lib.hid hA.out
      have HN5 := Lib.hid (show n5 ≤ 40000 by have h1 := hA.out.len; have h2 := hO.1.1; have h3 := HSL.out; have h4 := HN6.out; omega)
      clear hy hwy hyh hyr hO hS hap hA
      obtain ⟨wq, hwq⟩ : ∃ wq, wq = wr := ⟨_, rfl⟩
      subst hwq
      try unfold ltV at HIH
      go_wp2_with (first
        | (go_at_call 65; refine HIH.out.mono ?_; rintro e w5 ⟨l5, hl5, A28, n28, c28, rfl, hO28, hE5⟩
           have hlen5 := anc_len HG.out HYH.out hl5
           have HLL := Lib.hid (show l5.length ≤ 10 by have := HL10.out; omega)
           obtain ⟨A29, c29, w6, hrun, hr6, hG6, hor6⟩ := (HOI.out.e_ hE5).app A28 n28 c28 l5 hO28.reads (by have h1 := HN5.out; have h2 := hO28.1; have h3 := HLL.out; omega) 22
           have HAN := Lib.hid (HAI.out.src HY.out hl5 HLL.out)
           have HR6 := Lib.hid hr6
           have HSK := Lib.hid (lots_keep (HS.out.e hE5) hG6 hor6 HAPI.out)
           clear hlen5 hr6 hl5 hO28 hE5 hG6 hor6)
        | (at_builtin; refine wpList_app_runQ rfl _ _ rfl rfl rfl hrun ?_))
      go_roundw
      case rel => exact ⟨i + 1, _, _, _, _, by omega, by go_num, rfl, HR6.out, HSK.out.1, HSK.out.2, HAN⟩
      case measure => simp [intOf]; omega
    · have his : i = s.length := by have := HN6.out; omega
      rw [his] at hA
      have HR7 := Lib.hid hO
      have HA7 := Lib.hid hA.out
      have hcq := HC3.out wr (HE1.out.trans hO.2)
      unfold FlCells at hcq
      obtain ⟨_, _, _, _, _, _, _, _, _, _, q10⟩ := hcq
      have hpI : (p : Int) < (n : Int) := by omega
      have hbc := (HBX.out.e hO.2).cells
      obtain ⟨c0, c1, c2⟩ := hbc
      have HFW := Lib.hid (HFI.out wr (HE1.out.trans hO.2))
      obtain ⟨wz, hwz⟩ : ∃ wz, wz = wr := ⟨_, rfl⟩
      subst hwz
      have HAZ := Lib.hid (HA.out.e (HE1.out.trans hO.2))
      clear his hO hS hap hA
      go_wp2_with (go_at_call 60; refine HFW.out.mono ?_; rintro e wy ⟨rfl, rfl⟩)
      clear q10 c0 c1 c2
      go_loopw [5, 9] (fun t5 t9 wr => ∃ (j n5 c5 : Nat) (A5 : Option Addr) (out : List Int), j ≤ nm ∧ t9 = .int .i64 j ∧ t5 = .slice A5 n5 c5 ∧ RowI w1 wr A5 n5 c5 out ∧ Hid (AnG fs x s f.made s.length j out)) (fun _ t9 _ => nm - (intOf t9).toNat)
      case atStart => exact ⟨0, _, _, _, out, Nat.zero_le _, rfl, rfl, HR7.out, HA7.out⟩
      case round =>
        obtain ⟨j, n5, c5, A5, out, hj, rfl, rfl, hO, hA⟩ := hrel
        by_cases hjl : j < nm
        · have hEw := HE1.out.trans hO.2
          obtain ⟨bm, om, z, hAm, hbm, hz, hwz2, hcz⟩ := (HM3.out w (E.refl w)).get hjl
          obtain ⟨g, pz, hgz, hfz, hpzn, hFz, hwh, hwl, hrz, hNz⟩ := HPOS.out z (List.mem_of_getElem? hz)
          have hjI : (j : Int) < (nm : Int) := by omega
          have hpzI : (pz : Int) < (n : Int) := by omega
          have HS := Lib.hid (fun W (hW : E w W) => show W.cell? ⟨bm, om + j, none⟩ = some (.int .i64 z) ∧ W.cell? ⟨b3, o3 + pz * 11 + 8, none⟩ = some (.int .i64 g.n) from ⟨(hW.cell (p := ⟨bm, _, none⟩) hbm).trans hcz, hNz W hW⟩)
          have hEd : E w wr.drew := hEw.drew
          have HFZ := Lib.hid (hFz wr.drew hEd)
          have HIH := Lib.hid (ih (some ⟨b3, o3, none⟩) n c (z, 0, g.n) wr.drew hrz (HA.out.e hEd) hwl hwh)
          have HWH := Lib.hid hwh
          have HZ := Lib.hid hz
          have HGZ := Lib.hid hgz
          have HOI := Lib.hid (hO.e_ (E.refl wr).drew)
          have HAI := Lib.hid hA.out
          have HN5 := Lib.hid (show n5 ≤ 40000 by have h1 := hA.out.len; have h2 := hO.1.1; have h3 := HSL.out; have h4 := HM5.out; have h5 := HML.out; omega)
          have HED := Lib.hid hEd
          have s0 := HS.out _ hEd
          try unfold ltV at HIH
          try simp only at HIH
          clear hwh hwl hrz hz hgz hfz hFz hNz hcz hwz2 hO hA hEw hEd
          subst hAm
          go_upto_region 11 with fail
          refine wp_region_held_drew (S := (fun W => W.cell? ⟨bm, om + j, none⟩ = some (.int .i64 z) ∧ W.cell? ⟨b3, o3 + pz * 11 + 8, none⟩ = some (.int .i64 g.n))) (by kernel_rfl) s0 (fun hHeld => ?_)
          (((refine wpAnyH_take (i := 0) (v := ?_) rfl (by kernel_rfl) (by kernel_rfl) (by kernel_rfl) (fun _ _ _ h => h) (Or.inl ⟨by kernel_rfl, ?_⟩) (by assumption) ?_); rotate_left 1; (focus (intro w hSw; (try dsimp only at hSw); go_simp; (try with_reducible rfl))); (try simp only [Act.put, List.setIfInBounds_toArray, List.set_cons_zero, List.set_cons_succ])); ((refine wpAnyH_take (i := 1) (v := ?_) rfl (by kernel_rfl) (by kernel_rfl) (by kernel_rfl) (fun _ _ _ h => h) (Or.inl ⟨by kernel_rfl, ?_⟩) (by assumption) ?_); rotate_left 1; (focus (intro w hSw; (try dsimp only at hSw); go_simp; (try with_reducible rfl))); (try simp only [Act.put, List.setIfInBounds_toArray, List.set_cons_zero, List.set_cons_succ])); ((refine wpAnyH_take (i := 2) (v := ?_) rfl (by kernel_rfl) (by kernel_rfl) (by kernel_rfl) (fun _ _ _ h => h) (Or.inl ⟨by kernel_rfl, ?_⟩) (by assumption) ?_); rotate_left 1; (focus (intro w hSw; (try dsimp only at hSw); go_simp; (try with_reducible rfl))); (try simp only [Act.put, List.setIfInBounds_toArray, List.set_cons_zero, List.set_cons_succ])); ((refine wpAnyH_take (i := 3) (v := ?_) rfl (by kernel_rfl) (by kernel_rfl) (by kernel_rfl) (fun _ _ _ h => h) (Or.inl ⟨by kernel_rfl, ?_⟩) (by assumption) ?_); rotate_left 1; (focus (intro w hSw; (try dsimp only at hSw); go_simp; (try with_reducible rfl))); (try simp only [Act.put, List.setIfInBounds_toArray, List.set_cons_zero, List.set_cons_succ])); ((refine wpAnyH_take (i := 4) (v := ?_) rfl (by kernel_rfl) (by kernel_rfl) (by kernel_rfl) (fun _ _ _ h => h) (Or.inl ⟨by kernel_rfl, ?_⟩) (by assumption) ?_); rotate_left 1; (focus (intro w hSw; (try dsimp only at hSw); go_simp; (try with_reducible rfl))); (try simp only [Act.put, List.setIfInBounds_toArray, List.set_cons_zero, List.set_cons_succ])); ((refine wpAnyH_take (i := 5) (v := ?_) rfl (by kernel_rfl) (by kernel_rfl) (by kernel_rfl) (fun _ _ _ h => h) (Or.inl ⟨by kernel_rfl, ?_⟩) (by assumption) ?_); rotate_left 1; (focus (intro w hSw; (try dsimp only at hSw); go_simp; (try with_reducible rfl))); (try simp only [Act.put, List.setIfInBounds_toArray, List.set_cons_zero, List.set_cons_succ])); ((refine wpAnyH_take (i := 6) (v := ?_) rfl (by kernel_rfl) (by kernel_rfl) (by kernel_rfl) (fun _ _ _ h => h) (Or.inl ⟨by kernel_rfl, ?_⟩) (by assumption) ?_); rotate_left 1; (focus (intro w hSw; (try dsimp only at hSw); go_simp; (try with_reducible rfl))); (try simp only [Act.put, List.setIfInBounds_toArray, List.set_cons_zero, List.set_cons_succ])); ((refine wpAnyH_take (i := 7) (v := ?_) rfl (by kernel_rfl) (by kernel_rfl) (by kernel_rfl) (fun _ _ _ h => h) (Or.inl ⟨by kernel_rfl, ?_⟩) (by assumption) ?_); rotate_left 1; (focus (intro w hSw; (try dsimp only at hSw); go_simp; (try with_reducible rfl))); (try simp only [Act.put, List.setIfInBounds_toArray, List.set_cons_zero, List.set_cons_succ])); ((refine wpAnyH_take (i := 8) (v := ?_) rfl (by kernel_rfl) (by kernel_rfl) (by kernel_rfl) (fun _ _ _ h => h) (Or.inl ⟨by kernel_rfl, ?_⟩) (by assumption) ?_); rotate_left 1; (focus (intro w hSw; (try dsimp only at hSw); go_simp; (try with_reducible rfl))); (try simp only [Act.put, List.setIfInBounds_toArray, List.set_cons_zero, List.set_cons_succ])); ((refine wpAnyH_take (i := 9) (v := ?_) rfl (by kernel_rfl) (by kernel_rfl) (by kernel_rfl) (fun _ _ _ h => h) (Or.inl ⟨by kernel_rfl, ?_⟩) (by assumption) ?_); rotate_left 1; (focus (intro w hSw; (try dsimp only at hSw); go_simp; (try with_reducible rfl))); (try simp only [Act.put, List.setIfInBounds_toArray, List.set_cons_zero, List.set_cons_succ])); ((refine wpAnyH_take (i := 10) (v := ?_) rfl (by kernel_rfl) (by kernel_rfl) (by kernel_rfl) (fun _ _ _ h => h) (Or.inl ⟨by kernel_rfl, ?_⟩) (by assumption) ?_); rotate_left 1; (focus (intro w hSw; (try dsimp only at hSw); go_simp; (try with_reducible rfl))); (try simp only [Act.put, List.setIfInBounds_toArray, List.set_cons_zero, List.set_cons_succ])); ((refine wpAnyH_take (i := 11) (v := ?_) rfl (by kernel_rfl) (by kernel_rfl) (by kernel_rfl) (fun _ _ _ h => h) (Or.inl ⟨by kernel_rfl, ?_⟩) (by assumption) ?_); rotate_left 1; (focus (intro w hSw; (try dsimp only at hSw); go_simp; (try with_reducible rfl))); (try simp only [Act.put, List.setIfInBounds_toArray, List.set_cons_zero, List.set_cons_succ])))
          (((refine wpAnyH_ready (rs := [12]) (by kernel_rfl) (by simp) ?_); (refine AllReadyH.cons rfl (fun K hK => ?_) AllReadyH.nil); (rw [if_pos (by kernel_rfl)]); go_simp))
          refine HFZ.out.mono ?_
          rintro e wn ⟨rfl, rfl⟩
          refine hK _ _ s0 (fun hh => ?_)
          clear hK K hHeld
          have hHeld := hh
          clear hh
          (try simp only [List.getElem_toArray, List.getElem_cons_succ, List.getElem_cons_zero, Act.put, List.setIfInBounds_toArray, List.set_cons_zero, List.set_cons_succ])
          (((refine wpAnyH_take (i := 13) (v := ?_) rfl (by kernel_rfl) (by kernel_rfl) (by kernel_rfl) (fun _ _ _ h => h) (Or.inl ⟨by kernel_rfl, ?_⟩) (by assumption) ?_); rotate_left 1; (focus (intro w hSw; (try dsimp only at hSw); go_simp; (try with_reducible rfl))); (try simp only [Act.put, List.setIfInBounds_toArray, List.set_cons_zero, List.set_cons_succ])); ((refine wpAnyH_take (i := 14) (v := ?_) rfl (by kernel_rfl) (by kernel_rfl) (by kernel_rfl) (fun _ _ _ h => h) (Or.inl ⟨by kernel_rfl, ?_⟩) (by assumption) ?_); rotate_left 1; (focus (intro w hSw; (try dsimp only at hSw); go_simp; (try with_reducible rfl))); (try simp only [Act.put, List.setIfInBounds_toArray, List.set_cons_zero, List.set_cons_succ])); ((refine wpAnyH_take (i := 15) (v := ?_) rfl (by kernel_rfl) (by kernel_rfl) (by kernel_rfl) (fun _ _ _ h => h) (Or.inl ⟨by kernel_rfl, ?_⟩) (by assumption) ?_); rotate_left 1; (focus (intro w hSw; (try dsimp only at hSw); go_simp; (try with_reducible rfl))); (try simp only [Act.put, List.setIfInBounds_toArray, List.set_cons_zero, List.set_cons_succ])); ((refine wpAnyH_take (i := 16) (v := ?_) rfl (by kernel_rfl) (by kernel_rfl) (by kernel_rfl) (fun _ _ _ h => h) (Or.inl ⟨by kernel_rfl, ?_⟩) (by assumption) ?_); rotate_left 1; (focus (intro w hSw; (try dsimp only at hSw); go_simp; (try with_reducible rfl))); (try simp only [Act.put, List.setIfInBounds_toArray, List.set_cons_zero, List.set_cons_succ])))
          (((refine wpAnyH_ready (rs := [17]) (by kernel_rfl) (by simp) ?_); (refine AllReadyH.cons rfl (fun K hK => ?_) AllReadyH.nil); (rw [if_pos (by kernel_rfl)]); go_simp))
          refine HIH.out.mono ?_
          rintro e w5 ⟨l5, hl5, A28, n28, c28, rfl, hO28, hE5⟩
          have hlen5 := anc_len HG.out HWH.out hl5
          have HLL := Lib.hid (show l5.length ≤ 10 by have := HL10.out; omega)
          obtain ⟨A29, c29, w6, hrun, hr6, hG6, hor6⟩ := (HOI.out.e_ hE5).app A28 n28 c28 l5 hO28.reads (by have h1 := HN5.out; have h2 := hO28.1; have h3 := HLL.out; omega) 22
          have HAN := Lib.hid (HAI.out.made_ HZ.out (show Sorted (AncI fs (wholeF fs z)) l5 by rw [whole_eq HGZ.out]; exact hl5) HLL.out)
          have HR6 := Lib.hid hr6
          refine hK _ _ (HS.out _ (HED.out.trans hE5)) (fun hh => ?_)
          clear hK K hHeld
          have hHeld := hh
          clear hh
          (try simp only [List.getElem_toArray, List.getElem_cons_succ, List.getElem_cons_zero, Act.put, List.setIfInBounds_toArray, List.set_cons_zero, List.set_cons_succ])
          refine wpAnyH_ready (rs := [18]) (by kernel_rfl) (by simp) ?_
          refine AllReadyH.cons rfl (fun K hK => ?_) AllReadyH.nil
          refine step_app_runQ (by rfl) _ _ (by rfl) (by rfl) (by rfl) hrun ?_
          refine hK _ _ (HS.out _ (HE1.out.trans hr6.2)) (fun hh => ?_)
          clear hK K hHeld
          have hHeld := hh
          clear hh
          (try simp only [List.getElem_toArray, List.getElem_cons_succ, List.getElem_cons_zero, Act.put, List.setIfInBounds_toArray, List.set_cons_zero, List.set_cons_succ])
          (((refine wpAnyH_take (i := 19) (v := ?_) rfl (by kernel_rfl) (by kernel_rfl) (by kernel_rfl) (fun _ _ _ h => h) (Or.inl ⟨by kernel_rfl, ?_⟩) (by assumption) ?_); rotate_left 1; (focus (intro w hSw; (try dsimp only at hSw); go_simp; (try with_reducible rfl))); (try simp only [Act.put, List.setIfInBounds_toArray, List.set_cons_zero, List.set_cons_succ])))
          refine wpAnyH_done (by kernel_rfl) ?_ _
          go_simp
          clear hHeld s0 hlen5 hr6 hl5 hO28 hE5 hrun hG6 hor6
          go_wp2_with fail
          go_roundw
          case rel => exact ⟨j + 1, _, _, _, _, by omega, by go_num, rfl, HR6.out, HAN⟩
          case measure => simp [intOf]; omega
        · have hjm : j = f.made.length := by have := HML.out; omega
          rw [hjm] at hA
          have HD := Lib.hid (HDN.out out hA.out)
          have HSRT := Lib.hid (sortedI_c A5 n5 c5 out wr hO.1.reads (by have h1 := hA.out.len; have h2 := hO.1.1; have h3 := HSL.out; have h4 := HM5.out; omega))
          have HEZ := Lib.hid (HE1.out.trans hO.2)
          clear hjm hO hA
          go_wp2_with (go_at_call 93; refine HSRT.out.mono ?_; rintro e w9 ⟨A9, n9, c9, rfl, hO9, hE9⟩)
          go_ret
          exact ⟨_, HD.out, A9, n9, c9, rfl, hO9.rebase HEZ.out.le, HEZ.out.trans hE9⟩
set_option linter.unusedSimpArgs false in
set_option maxHeartbeats 4000000 in
set_option maxRecDepth 100000 in
theorem refAnc_c (fs : List Fl) (hg : GOk fs) (hn : cntU fs ≤ 3000) (hl : fs.length ≤ 10) (hm5 : ∀ f ∈ fs, f.made.length ≤ 500) (A : Option Addr) (n c : Nat) (x : Lt) (w : World) (h : FlowsAt w A n c fs) (hx : WfL x) :
    Calls Try.prog 23 #[.slice A n c, ltV x] w (RetSorted w (fun i => hasF fs x = true ∧ AncI fs x i)) := by
  obtain ⟨w1, hw1⟩ : ∃ w1, w.alloc (.cells #[.int .i64 x.1, .int .i64 x.2.1, .int .i64 x.2.2] 32) = w1 := ⟨_, rfl⟩
  have hE1 : E w w1 := by rw [← hw1]; exact (E.refl w).alloc _
  have hbx : LtBox w1 w.heap.size x := by rw [← hw1]; exact LtBox.new w x
  have HOF := Lib.hid (refOf_c A n c fs x w1 (h.e hE1) hx)
  obtain ⟨rk, hrk⟩ := hg.rk
  have HAN := Lib.hid (fun W (hE : E w W) (hh : hasF fs x = true) => ranc_c fs rk hg hrk hn hl hm5 (rk x.1 + 1) A n c x W (Nat.lt_succ_self _) (h.e hE) hx hh)
  have HE1 := Lib.hid hE1
  have HBX := Lib.hid hbx
  obtain ⟨P, hP⟩ : ∃ P : Int → Prop, (fun i => hasF fs x = true ∧ AncI fs x i) = P := ⟨_, rfl⟩
  obtain ⟨bv, hbv⟩ : ∃ bv, hasF fs x = bv := ⟨_, rfl⟩
  have HPN := Lib.hid (fun (hb : bv = false) => show Sorted P [] from ⟨List.Pairwise.nil, fun i => by rw [← hP, hbv, hb]; simp⟩)
  have HPY := Lib.hid (fun (hb : bv = true) l (hs : Sorted (AncI fs x) l) => show Sorted P l from ⟨hs.srt, fun i => by rw [hs.mem, ← hP, hbv, hb]; simp⟩)
  rw [hP]
  rw [hbv] at HOF HAN
  obtain ⟨c0, c1, c2⟩ := hbx.cells
  clear h hx hE1 hbx hrk hg hn hl hm5 hP hbv
  unfold ltV at *
  cases bv
  · go_enter Try.func23, Try.ntmps23
    go_upto_region 1 with fail
    try rw [hw1]
    clear hw1
    go_wp2_with (go_at_call 24; refine HOF.out.mono ?_; rintro e w3 ⟨rfl, hE3⟩)
    go_ret
    exact ⟨[], HPN.out (by trivial), none, 0, 0, rfl, Own.nil _ _ _ _, HE1.out.trans hE3⟩
  · go_enter Try.func23, Try.ntmps23
    go_upto_region 1 with fail
    try rw [hw1]
    clear hw1
    go_upto_region 4 with (go_at_call 24; refine HOF.out.mono ?_; rintro e w3 ⟨rfl, hE3⟩)
    clear c0 c1 c2
    obtain ⟨c0, c1, c2⟩ := (HBX.out.e hE3).cells
    have HA3 := Lib.hid (HAN.out w3 (HE1.out.trans hE3) (by trivial))
    have HE3 := Lib.hid (HE1.out.trans hE3)
    clear hE3
    go_wp2_with (go_at_call 65; refine HA3.out.mono ?_; rintro e w4 ⟨l, hl, A4, n4, c4, rfl, hO4, hE4⟩)
    go_ret
    exact ⟨l, HPY.out (by trivial) l hl, A4, n4, c4, rfl, hO4.rebase HE3.out.le, HE3.out.trans hE4⟩
end Go.Proofs.Ytmeplpiamkaniaa
