/- Lemmas of the claim, joined: GT GU. No condition. -/
import Derived.Test.YtmeplpiamkaniaaGreatNB
import Derived.Test.YtmeplpiamkaniaaGreatNC
import Derived.Test.YtmeplpiamkaniaaGreatNE
namespace Go.Proofs.YtmeplpiamkaniaaGreat
set_option linter.unusedVariables false
set_option linter.unusedSimpArgs false
structure LdSt (fs : List Fl) (i : Int) (out rest : List Int) : Prop where
  nd : out.Nodup
  snd : ∀ j ∈ out, Lead1 fs i j
  gr : ∀ j ∈ rest, j = i ∨ j ∈ out
  clo : ∀ a, (a = i ∨ a ∈ out) → a ∉ rest → ∀ f, getF fs a = some f → ∀ j ∈ refsF f, j ∈ out
structure LdIn (fs : List Fl) (i a : Int) (f : Fl) (m : Nat) (out rest : List Int) : Prop where
  nd : out.Nodup
  snd : ∀ j ∈ out, Lead1 fs i j
  gr : ∀ j ∈ rest, j = i ∨ j ∈ out
  clo : ∀ b, (b = i ∨ b ∈ out) → b ∉ rest → b ≠ a → ∀ f, getF fs b = some f → ∀ j ∈ refsF f, j ∈ out
  part : ∀ j ∈ (refsF f).take m, j ∈ out
  at_ : a = i ∨ a ∈ out
  get : getF fs a = some f
section
variable {fs : List Fl} {i a : Int} {f : Fl} {m : Nat} {out rest : List Int}
theorem LdSt.start (fs : List Fl) (i : Int) : LdSt fs i [] [i] :=
  ⟨List.nodup_nil, fun _ h => (by cases h), fun j hj => .inl (by simpa using hj), fun a ha hn => by
    rcases ha with rfl | ha
    · exact absurd List.mem_cons_self hn
    · cases ha⟩
theorem LdSt.into (h : LdSt fs i out (a :: rest)) (hf : getF fs a = some f) : LdIn fs i a f 0 out rest :=
  ⟨h.nd, h.snd, fun j hj => h.gr j (List.mem_cons_of_mem _ hj), fun b hb hn hne => h.clo b hb (fun hm => by
    rcases List.mem_cons.1 hm with e | e
    · exact hne e
    · exact hn e), fun j hj => by simp at hj, h.gr a List.mem_cons_self, hf⟩
theorem LdIn.old (h : LdIn fs i a f m out rest) {j : Int} (hj : (refsF f)[m]? = some j) (hm : j ∈ out) : LdIn fs i a f (m + 1) out rest :=
  ⟨h.nd, h.snd, h.gr, h.clo, fun k hk => by
    rw [List.take_add_one, hj] at hk
    rcases List.mem_append.1 hk with hk | hk
    · exact h.part k hk
    · simp at hk; subst hk; exact hm, h.at_, h.get⟩
theorem LdIn.new (h : LdIn fs i a f m out rest) {j : Int} (hj : (refsF f)[m]? = some j) (hm : j ∉ out) : LdIn fs i a f (m + 1) (out ++ [j]) (rest ++ [j]) := by
  have hr : j ∈ refsF f := List.mem_of_getElem? hj
  refine ⟨?_, fun k hk => ?_, fun k hk => ?_, fun b hb hn hne g hg k hk => ?_, fun k hk => ?_, h.at_.imp id (List.mem_append_left _), h.get⟩
  · rw [List.nodup_append]
    exact ⟨h.nd, by simp, fun x hx y hy e => by simp at hy; subst hy; subst e; exact hm hx⟩
  · rcases List.mem_append.1 hk with hk | hk
    · exact h.snd k hk
    · simp at hk
      subst hk
      rcases h.at_ with e | e
      · have hg := h.get
        rw [e] at hg
        exact .one hg hr
      · exact .more (h.snd a e) h.get hr
  · rcases List.mem_append.1 hk with hk | hk
    · exact (h.gr k hk).imp id (List.mem_append_left _)
    · simp at hk; subst hk; exact .inr (by simp)
  · refine List.mem_append_left _ (h.clo b ?_ (fun hm => hn (List.mem_append_left _ hm)) hne g hg k hk)
    rcases hb with hb | hb
    · exact .inl hb
    · rcases List.mem_append.1 hb with hb | hb
      · exact .inr hb
      · exact absurd (List.mem_append_right _ hb) hn
  · rw [List.take_add_one, hj] at hk
    rcases List.mem_append.1 hk with hk | hk
    · exact List.mem_append_left _ (h.part k hk)
    · simp at hk; subst hk; simp
theorem LdIn.out_ (h : LdIn fs i a f (refsF f).length out rest) : LdSt fs i out rest :=
  ⟨h.nd, h.snd, h.gr, fun b hb hn g hg k hk => by
    by_cases e : b = a
    · subst e
      rw [h.get] at hg
      injection hg with hg
      subst hg
      exact h.part k (by rw [List.take_length]; exact hk)
    · exact h.clo b hb hn e g hg k hk⟩
theorem LdSt.done (h : LdSt fs i out []) : ∀ j, j ∈ out ↔ Lead1 fs i j :=
  fun j => ⟨h.snd j, lead_closed (fun a ha f hf k hk => h.clo a ha (by simp) f hf k hk) j⟩
theorem Lead1.get (hr : ∀ f ∈ fs, ∀ j ∈ refsF f, ∃ q, getF fs j = some q) {j : Int} (h : Lead1 fs i j) : ∃ q, getF fs j = some q := by
  cases h with
  | one h1 h2 => exact hr _ (getF_some h1).1 _ h2
  | more _ h1 h2 => exact hr _ (getF_some h1).1 _ h2
theorem lead_len {l : List Int} (hn : l.Nodup) (h : ∀ j ∈ l, ∃ q, getF fs j = some q) : l.length ≤ fs.length := by
  have := nodup_le (a := l) (b := fs.map Fl.id) hn fun j hj => by
    obtain ⟨q, hq⟩ := h j hj
    exact List.mem_map.2 ⟨q, (getF_some hq).1, (getF_some hq).2⟩
  rwa [List.length_map] at this
theorem LdSt.len (h : LdSt fs i out rest) (hr : ∀ f ∈ fs, ∀ j ∈ refsF f, ∃ q, getF fs j = some q) : out.length ≤ fs.length := lead_len h.nd fun j hj => (h.snd j hj).get hr
theorem LdIn.len (h : LdIn fs i a f m out rest) (hr : ∀ f ∈ fs, ∀ j ∈ refsF f, ∃ q, getF fs j = some q) : out.length ≤ fs.length := lead_len h.nd fun j hj => (h.snd j hj).get hr
end
def insI (x : Int) (l : List Int) : List Int :=
  if l.contains x then l else (l.filter fun y => decide (y < x)) ++ [x] ++ l.filter fun y => decide (x < y)
def sortI (l : List Int) : List Int := l.foldl (fun o x => insI x o) []
theorem insI_facts (x : Int) {l : List Int} (h : l.Pairwise (· < ·)) : (insI x l).Pairwise (· < ·) ∧ ∀ y, y ∈ insI x l ↔ y = x ∨ y ∈ l := by
  unfold insI
  by_cases hx : x ∈ l
  · rw [if_pos (by simpa using hx)]
    exact ⟨h, fun y => ⟨.inr, fun hy => by rcases hy with rfl | hy <;> assumption⟩⟩
  · rw [if_neg (by simpa using hx)]
    refine ⟨?_, fun y => ?_⟩
    · rw [List.pairwise_append, List.pairwise_append]
      refine ⟨⟨h.filter _, by simp, fun a ha b hb => ?_⟩, h.filter _, fun a ha b hb => ?_⟩
      · have := (List.mem_filter.1 ha).2
        simp at hb this
        omega
      · have hb := (List.mem_filter.1 hb).2
        simp only [decide_eq_true_eq] at hb
        rcases List.mem_append.1 ha with ha | ha
        · have ha := (List.mem_filter.1 ha).2
          simp only [decide_eq_true_eq] at ha
          omega
        · simp at ha; omega
    · simp only [List.mem_append, List.mem_filter, decide_eq_true_eq, List.mem_singleton]
      constructor
      · rintro ((⟨h1, _⟩ | h1) | ⟨h1, _⟩)
        · exact .inr h1
        · exact .inl h1
        · exact .inr h1
      · rintro (rfl | h1)
        · exact .inl (.inr rfl)
        · have : y ≠ x := fun e => hx (e ▸ h1)
          by_cases hlt : y < x
          · exact .inl (.inl ⟨h1, hlt⟩)
          · exact .inr ⟨h1, by omega⟩
theorem foldI_facts (l : List Int) : ∀ o : List Int, o.Pairwise (· < ·) → (l.foldl (fun o x => insI x o) o).Pairwise (· < ·) ∧ ∀ y, y ∈ l.foldl (fun o x => insI x o) o ↔ y ∈ o ∨ y ∈ l := by
  induction l with
  | nil => intro o ho; exact ⟨ho, by simp⟩
  | cons x l ih =>
    intro o ho
    obtain ⟨h1, h2⟩ := insI_facts x ho
    obtain ⟨h3, h4⟩ := ih _ h1
    refine ⟨h3, fun y => ?_⟩
    rw [List.foldl_cons, h4, h2, List.mem_cons]
    constructor
    · rintro ((h | h) | h)
      · exact .inr (.inl h)
      · exact .inl h
      · exact .inr (.inr h)
    · rintro (h | h | h)
      · exact .inl (.inr h)
      · exact .inl (.inl h)
      · exact .inr h
theorem sortI_sorted (l : List Int) : Sorted (fun i => i ∈ l) (sortI l) := by
  obtain ⟨h1, h2⟩ := foldI_facts l [] List.Pairwise.nil
  exact ⟨h1, fun x => by rw [sortI, h2]; simp⟩
theorem insI_len (x : Int) (l : List Int) : (insI x l).length ≤ l.length + 1 := by
  unfold insI
  split
  · omega
  · rw [List.length_append, List.length_append]
    have h1 : (l.filter fun y => decide (y < x)).length + (l.filter fun y => decide (x < y)).length ≤ l.length := by
      induction l with
      | nil => simp
      | cons a l ih =>
        have ih := ih (fun hc => by rename_i hn; exact hn (by simp at hc ⊢; exact .inr hc))
        rw [List.filter_cons, List.filter_cons]
        by_cases h1 : a < x
        · have h2 : ¬ x < a := by omega
          simp [h1, h2]; omega
        · by_cases h2 : x < a
          · simp [h1, h2]; omega
          · simp [h1, h2]; omega
    simp; omega
theorem insI_split {l : List Int} (h : l.Pairwise (· < ·)) {k : Nat} {x : Int} (hk : k ≤ l.length) (hb : ∀ y ∈ l.take k, y < x) (ha : ∀ y, l[k]? = some y → x ≤ y) : (l[k]? = some x ∧ insI x l = l) ∨ (l[k]? ≠ some x ∧ insI x l = l.take k ++ [x] ++ l.drop k) := by
  have hd : ∀ y ∈ l.drop k, x ≤ y := fun y hy => by
    obtain ⟨j, hj⟩ := List.getElem?_of_mem hy
    rw [List.getElem?_drop] at hj
    rcases Nat.eq_zero_or_pos j with rfl | hp
    · exact ha y hj
    · have hlt := (List.getElem?_eq_some_iff.1 hj).1
      have hz := ha l[k] (List.getElem?_eq_getElem (by omega))
      have h2 := (List.pairwise_iff_getElem.1 h) k (k + j) (by omega) hlt (by omega)
      rw [(List.getElem?_eq_some_iff.1 hj).2] at h2
      omega
  by_cases hx : l[k]? = some x
  · exact .inl ⟨hx, by unfold insI; rw [if_pos (by simpa using List.mem_of_getElem? hx)]⟩
  · have hnd : ∀ y ∈ l.drop k, x < y := fun y hy => by
      have h1 := hd y hy
      rcases Int.lt_or_le x y with h2 | h2
      · exact h2
      · obtain ⟨j, hj⟩ := List.getElem?_of_mem hy
        rw [List.getElem?_drop] at hj
        have e : y = x := by omega
        subst e
        rcases Nat.eq_zero_or_pos j with rfl | hp
        · exact absurd hj hx
        · have hlt := (List.getElem?_eq_some_iff.1 hj).1
          have hz := ha l[k] (List.getElem?_eq_getElem (by omega))
          have h2 := (List.pairwise_iff_getElem.1 h) k (k + j) (by omega) hlt (by omega)
          rw [(List.getElem?_eq_some_iff.1 hj).2] at h2
          omega
    have hni : x ∉ l := fun hm => by
      rw [← List.take_append_drop k l] at hm
      rcases List.mem_append.1 hm with hm | hm
      · have := hb x hm; omega
      · have := hnd x hm; omega
    refine .inr ⟨hx, ?_⟩
    unfold insI
    rw [if_neg (by simpa using hni)]
    have e : l = l.take k ++ l.drop k := (List.take_append_drop k l).symm
    have f1 : (l.filter fun y => decide (y < x)) = l.take k := by
      conv => lhs; rw [e]
      rw [List.filter_append, List.filter_eq_self.2 (by simpa using hb), List.filter_eq_nil_iff.2 (by intro y hy; have := hnd y hy; simp; omega), List.append_nil]
    have f2 : (l.filter fun y => decide (x < y)) = l.drop k := by
      conv => lhs; rw [e]
      rw [List.filter_append, List.filter_eq_nil_iff.2 (by intro y hy; have := hb y hy; simp; omega), List.filter_eq_self.2 (by simpa using hnd), List.nil_append]
    rw [f1, f2]
end Go.Proofs.YtmeplpiamkaniaaGreat
namespace Go.Proofs.YtmeplpiamkaniaaGreat
set_option linter.unusedVariables false
set_option linter.unusedSimpArgs false
open Go.RowKit
def RowI (W V : World) (A : Option Addr) (n c : Nat) (l : List Int) : Prop := Own .i64 3 V W.heap.size A n c l ∧ E W V
theorem RowI.nil {W V : World} (h : E W V) : RowI W V none 0 0 [] := ⟨Own.nil _ _ _ _, h⟩
theorem RowI.e_ {W V V' : World} {A : Option Addr} {n c : Nat} {l : List Int} (h : RowI W V A n c l) (hE : E V V') : RowI W V' A n c l := ⟨h.1.e hE, h.2.trans hE⟩
theorem RowI.app {W V : World} {A : Option Addr} {n c : Nat} {l : List Int} (h : RowI W V A n c l) (A2 : Option Addr) (m c2 : Nat) (l2 : List Int) (hr : Nums .i64 V A2 m c2 l2) (hn : n + m ≤ 1099511627776) (ty : TypeId) :
    ∃ A' c' V', (Builtin.append_ #[22, 22] ty #[.slice A n c, .slice A2 m c2]).run Tryz.prog V = .ok (.slice A' (n + m) c') V' ∧ RowI W V' A' (n + m) c' (l ++ l2) ∧ V.grownBy V' (ob A) ∧ (ob A' = ob A ∨ ob A' = some V.heap.size) := by
  obtain ⟨A', c', V', hrun, hO, hG, hor⟩ := run_appN intTk V ty W.heap.size A n c l h.1 A2 m c2 l2 hr hn h.2.le
  rw [ob_eq] at hG
  rw [ob_eq, ob_eq] at hor
  exact ⟨A', c', V', hrun, ⟨hO, h.2.grown hG (fun k hk => (h.1.ltN k hk).1)⟩, hG, hor⟩
theorem nums_take {k : IntKind} {w : World} {A : Option Addr} {n c : Nat} {l : List Int} (h : Nums k w A n c l) {m : Nat} (hm : m ≤ n) : Nums k w A m c (l.take m) :=
  ⟨by rw [List.length_take, h.len]; omega, Nat.le_trans hm h.cap, h.mx, fun x hx => h.wf x (List.mem_of_mem_take hx), fun h0 => by
    obtain ⟨b, o, e, hb, hc⟩ := h.at_ (by omega)
    refine ⟨b, o, e, hb, fun i hi => ?_⟩
    rw [List.length_take] at hi
    rw [hc i (by have := h.len; omega), List.getElem_take]⟩
theorem nums_drop {k : IntKind} {w : World} {g n c : Nat} {l : List Int} (h : Nums k w (some ⟨g, 0, none⟩) n c l) {m : Nat} (hm : m ≤ n) : Nums k w (if c = m then some ⟨g, 0, none⟩ else some ⟨g, m, none⟩) (n - m) (c - m) (l.drop m) :=
  ⟨by rw [List.length_drop, h.len], by have := h.cap; omega, by have := h.mx; omega, fun x hx => h.wf x (List.mem_of_mem_drop hx), fun h0 => by
    obtain ⟨b, o, e, hb, hc⟩ := h.at_ (by omega)
    injection e with e
    injection e with e1 e2
    subst e1 e2
    rw [if_neg (by have := h.cap; omega)]
    refine ⟨g, m, rfl, hb, fun i hi => ?_⟩
    rw [List.length_drop] at hi
    have := hc (m + i) (by have := h.len; omega)
    rw [Nat.zero_add] at this
    rw [this, List.getElem_drop]⟩
theorem nums_one2 (W : World) {x : Int} (hx : (Lit.int .i64 x).wf = true) : Nums .i64 (W.alloc (.cells #[.int .i64 x] 3)) (some ⟨W.heap.size, 0, none⟩) 1 1 [x] :=
  ⟨rfl, Nat.le_refl _, by unfold maxLen; omega, by intro y hy; rw [List.mem_singleton] at hy; subst hy; exact hx, fun _ => ⟨W.heap.size, 0, rfl, by simp, fun j hj => by
    have : j = 0 := by simpa using hj
    subst this; exact cell_new _ _ _⟩⟩
theorem nums_up {X1 X2 : World} {g : Nat} {x : Int} (h : Nums .i64 X1 (some ⟨g, 0, none⟩) 1 1 [x]) (hE : E X1 X2) : Nums .i64 X2 (some ⟨g, 0, none⟩) 1 1 [x] := h.e hE
theorem sortI_snoc (l : List Int) (x : Int) : sortI (l ++ [x]) = insI x (sortI l) := by rw [sortI, sortI, List.foldl_append]; rfl
theorem sortI_len (l : List Int) : (sortI l).length ≤ l.length := by
  have h : ∀ (l o : List Int), (l.foldl (fun o x => insI x o) o).length ≤ o.length + l.length := by
    intro l
    induction l with
    | nil => intro o; simp
    | cons x l ih => intro o; have h1 := ih (insI x o); have h2 := insI_len x o; simp only [List.foldl_cons, List.length_cons]; omega
  have := h l []
  simpa [sortI] using this
set_option linter.unusedSimpArgs false in
set_option maxHeartbeats 8000000 in
set_option maxRecDepth 100000 in
theorem sortedI_c (A : Option Addr) (n c : Nat) (l : List Int) (w : World) (h : Nums .i64 w A n c l) (hn : n ≤ 100000) :
    Calls Tryz.prog 67 #[.slice A n c] w (RetOwn .i64 3 w (sortI l)) := by
  have hn63 := h.n63
  have HA := Lib.hid h
  have HN := Lib.hid hn
  clear h hn
  go_enter Tryz.func67, Tryz.ntmps67
  go_wp2_with fail
  go_loopw [3, 4] (fun t3 t4 wr => ∃ (i no co : Nat) (Ao : Option Addr) (out : List Int), i ≤ n ∧ t4 = .int .i64 i ∧ t3 = .slice Ao no co ∧ Own .i64 3 wr w.heap.size Ao no co out ∧ E w wr ∧ Hid (out = sortI (l.take i))) (fun _ t4 _ => n - (intOf t4).toNat)
  case atStart => exact ⟨0, 0, 0, none, [], Nat.zero_le _, rfl, rfl, Own.nil _ _ _ _, E.refl _, rfl⟩
  case round =>
    obtain ⟨i, no, co, Ao, out, hi, rfl, rfl, hO, hE, hout⟩ := hrel
    by_cases hlt : i < n
    · obtain ⟨b, o, x, rfl, hb, hx, hwx, hcx⟩ := (HA.out.e hE).get hlt
      have hiI : (i : Int) < (n : Int) := by omega
      have HX := Lib.hid hx
      have HWX := Lib.hid hwx
      have hno : no ≤ 100000 := by
        have h1 := hO.1
        have h2 := sortI_len (l.take i)
        rw [← hout.out, List.length_take] at h2
        have := HN.out
        omega
      have hno63 := hO.reads.n63
      have HSRT := Lib.hid (show out.Pairwise (· < ·) by rw [hout.out]; exact (sortI_sorted _).srt)
      have HOI := Lib.hid hO
      have HEI := Lib.hid hE
      have HOU := Lib.hid hout.out
      have HNO := Lib.hid hO.1
      have HCX := Lib.hid (fun W (hW : E wr W) => (hW.cell (p := ⟨b, _, none⟩) hb).trans hcx)
      obtain ⟨wq, hwq⟩ : ∃ wq, wq = wr := ⟨_, rfl⟩
      subst hwq
      have hcap := hO.reads.cap
      have hform := hO.form
      clear hx hwx hO hE hout hcx
      go_wp2_with fail
      go_loopw [5] (fun t5 wr => ∃ k : Nat, k ≤ no ∧ t5 = .int .i64 k ∧ E wq wr ∧ Hid (∀ y ∈ out.take k, y < x)) (fun t5 _ => no - (intOf t5).toNat)
      case atStart => exact ⟨0, Nat.zero_le _, rfl, E.refl _, fun y hy => by simp at hy⟩
      case round =>
        obtain ⟨k, hk, rfl, hE, hlo⟩ := hrel
        have hcx := HCX.out wr hE
        have hk0 : (0 : Int) ≤ (k : Int) := by omega
        have hin : (k < no ∧ ∃ y, out[k]? = some y ∧ y < x) ∨ (Hid (∀ y, out[k]? = some y → x ≤ y)) := by
          by_cases hkl : k < no
          · obtain ⟨y, hy⟩ : ∃ y, out[k]? = some y := ⟨_, List.getElem?_eq_getElem (by rw [HNO.out]; exact hkl)⟩
            by_cases hyx : y < x
            · exact .inl ⟨hkl, y, hy, hyx⟩
            · exact .inr (fun z hz => by rw [hy] at hz; injection hz with hz; omega)
          · exact .inr (fun z hz => by rw [List.getElem?_eq_none (by rw [HNO.out]; omega)] at hz; cases hz)
        rcases hin with ⟨hkl, y, hy, hyx⟩ | hstop
        · obtain ⟨bo, oo, y', hAo, hbo, hy', hwy, hcy⟩ := (HOI.out.reads.e hE).get hkl
          rw [hy] at hy'
          injection hy' with hy'
          subst hy'
          subst hAo
          have hkI : (k : Int) < (no : Int) := by omega
          have dyx : decide (y < x) = true := by simpa using hyx
          have HLO := Lib.hid (show ∀ z ∈ out.take (k + 1), z < x by
            intro z hz
            rw [List.take_add_one, hy] at hz
            rcases List.mem_append.1 hz with hz | hz
            · exact hlo.out z hz
            · simp at hz; subst hz; exact hyx)
          clear hy hwy
          go_upto_region 6 with fail
          (refine wp_region_quiet_lit (by kernel_rfl) (by kernel_rfl) ?_; (repeat (first | ((with_reducible refine wpQuiet_step (fun K hK => ?_)); go_simp; (with_reducible refine hK _ ?_); clear hK K) | ((with_reducible refine wpQuiet_off (by kernel_rfl) (fun K hK => ?_)); go_simp; (with_reducible refine hK _ ?_); clear hK K))); (with_reducible refine wpQuiet_nil ?_); intro _ hw'; obtain ⟨nq, hw''⟩ := hw'; subst hw'')
          go_wp2_with fail
          go_roundw
          case rel => exact ⟨k + 1, by omega, by go_num, hE.drewN _, HLO⟩
          case measure => simp [intOf]; omega
        · have HSP := Lib.hid (insI_split HSRT.out (by rw [HNO.out]; exact hk) hlo.out hstop.out)
          have HNX := Lib.hid (show sortI (l.take (i + 1)) = insI x out by rw [List.take_add_one, HX.out, HOU.out]; exact sortI_snoc _ _)
          by_cases hkl : k < no
          · obtain ⟨bo, oo, y, hAo, hbo, hy, hwy, hcy⟩ := (HOI.out.reads.e hE).get hkl
            have hkI : (k : Int) < (no : Int) := by omega
            have hkne : ((k : Int) == (no : Int)) = false := by simp; omega
            have hxy := hstop.out y hy
            have dyx : decide (y < x) = false := by simp; omega
            obtain ⟨go, rfl⟩ : ∃ go, Ao = some ⟨go, 0, none⟩ := by
              rcases hform with ⟨_, h0, _⟩ | ⟨go, h0, _⟩
              · omega
              · exact ⟨go, h0⟩
            injection hAo with hAo
            injection hAo with hA1 hA2
            subst hA1 hA2
            simp only [Nat.zero_add] at hcy
            by_cases hyx : y = x
            · have HR := Lib.hid (show sortI (l.take (i + 1)) = out by
                rw [HNX.out]
                rcases HSP.out with ⟨_, h2⟩ | ⟨h2, _⟩
                · exact h2
                · exact absurd (by rw [hy, hyx]) h2)
              subst hyx
              clear hy hwy hstop hlo hxy
              go_upto_region 6 with fail
              (refine wp_region_quiet_lit (by kernel_rfl) (by kernel_rfl) ?_; (repeat (first | ((with_reducible refine wpQuiet_step (fun K hK => ?_)); go_simp; (with_reducible refine hK _ ?_); clear hK K) | ((with_reducible refine wpQuiet_off (by kernel_rfl) (fun K hK => ?_)); go_simp; (with_reducible refine hK _ ?_); clear hK K))); (with_reducible refine wpQuiet_nil ?_); intro _ hw'; obtain ⟨nq, hw''⟩ := hw'; subst hw'')
              go_upto_region 8 with fail
              obtain ⟨ws, hws⟩ : ∃ ws, wr.drewN nq = ws := ⟨_, rfl⟩
              have hEs : E wr ws := by rw [← hws]; exact (E.refl wr).drewN nq
              rw [hws]
              have hcx2 := HCX.out ws (hE.trans hEs)
              have hcy2 := (hEs.cell (p := ⟨go, _, none⟩) hbo).trans hcy
              clear hcx hcy hws
              (refine wp_region_quiet_lit (by kernel_rfl) (by kernel_rfl) ?_; (repeat (first | ((with_reducible refine wpQuiet_step (fun K hK => ?_)); go_simp; (with_reducible refine hK _ ?_); clear hK K) | ((with_reducible refine wpQuiet_off (by kernel_rfl) (fun K hK => ?_)); go_simp; (with_reducible refine hK _ ?_); clear hK K))); (with_reducible refine wpQuiet_nil ?_); intro _ hw'; obtain ⟨nq, hw''⟩ := hw'; subst hw'')
              go_wp2_with fail
              go_roundw
              case rel => exact ⟨i + 1, no, co, _, out, by omega, by go_num, rfl, HOI.out.e ((hE.trans hEs).drewN _), HEI.out.trans ((hE.trans hEs).drewN _), HR.out.symm⟩
              case measure => simp [intOf]; omega
            · have HR := Lib.hid (show sortI (l.take (i + 1)) = out.take k ++ [x] ++ out.drop k by
                rw [HNX.out]
                rcases HSP.out with ⟨h2, _⟩ | ⟨_, h2⟩
                · rw [hy] at h2; injection h2 with h2; exact absurd h2 hyx
                · exact h2)
              have dne : (y != x) = true := by simpa using hyx
              clear hy hwy hstop hlo hxy
              go_upto_region 6 with fail
              (refine wp_region_quiet_lit (by kernel_rfl) (by kernel_rfl) ?_; (repeat (first | ((with_reducible refine wpQuiet_step (fun K hK => ?_)); go_simp; (with_reducible refine hK _ ?_); clear hK K) | ((with_reducible refine wpQuiet_off (by kernel_rfl) (fun K hK => ?_)); go_simp; (with_reducible refine hK _ ?_); clear hK K))); (with_reducible refine wpQuiet_nil ?_); intro _ hw'; obtain ⟨nq, hw''⟩ := hw'; subst hw'')
              go_upto_region 8 with fail
              obtain ⟨ws, hws⟩ : ∃ ws, wr.drewN nq = ws := ⟨_, rfl⟩
              have hEs : E wr ws := by rw [← hws]; exact (E.refl wr).drewN nq
              rw [hws]
              have hcx2 := HCX.out ws (hE.trans hEs)
              have hcy2 := (hEs.cell (p := ⟨go, _, none⟩) hbo).trans hcy
              clear hcx hcy hws
              (refine wp_region_quiet_lit (by kernel_rfl) (by kernel_rfl) ?_; (repeat (first | ((with_reducible refine wpQuiet_step (fun K hK => ?_)); go_simp; (with_reducible refine hK _ ?_); clear hK K) | ((with_reducible refine wpQuiet_off (by kernel_rfl) (fun K hK => ?_)); go_simp; (with_reducible refine hK _ ?_); clear hK K))); (with_reducible refine wpQuiet_nil ?_); intro _ hw'; obtain ⟨nq, hw''⟩ := hw'; subst hw'')
              go_upto_region 10 with fail
              have hkc : (k : Int) ≤ (co : Int) := by omega
              have hkno : (k : Int) ≤ (no : Int) := by omega
              have hcne : ¬ co = k := by omega
              obtain ⟨w0, hw0⟩ : ∃ w0, ws.drewN nq = w0 := ⟨_, rfl⟩
              have hE0 : E wq w0 := by rw [← hw0]; exact (hE.trans hEs).drewN nq
              rw [hw0]
              clear hw0
              have HS := Lib.hid (fun W (hW : E w0 W) => HCX.out W (hE0.trans hW))
              have HR1 := Lib.hid (fun W (hW : E w0 W) => nums_take ((HOI.out.reads.e (hE0.trans hW))) (m := k) (by omega))
              have HR2 := Lib.hid (fun (W : World) (hW : E w0 W) => show Nums .i64 W (some ⟨go, k, none⟩) (no - k) (co - k) (out.drop k) from (by have h9 := nums_drop (HOI.out.reads.e (hE0.trans hW)) (m := k) (by omega); rw [if_neg hcne] at h9; exact h9))
              have hEd : E w0 w0.drew := (E.refl w0).drew
              obtain ⟨A1, d1, V1, run1, r1, _⟩ := (RowI.nil hEd).app _ _ _ _ (HR1.out _ hEd) (by omega) 22
              rw [Nat.zero_add, List.nil_append] at r1
              rw [Nat.zero_add] at run1
              obtain ⟨V2, hV2⟩ : ∃ V2, V1.alloc (.cells #[.int .i64 x] 3) = V2 := ⟨_, rfl⟩
              have hE12 : E V1 V2 := by rw [← hV2]; exact (E.refl V1).alloc _
              obtain ⟨A2, d2, V3, run2, r2, _⟩ := (r1.e_ hE12).app _ _ _ _ (show Nums .i64 V2 (some ⟨V1.heap.size, 0, none⟩) 1 1 [x] by rw [← hV2]; exact nums_one2 V1 HWX.out) (by omega) 22
              obtain ⟨A3, d3, V4, run3, r3, _⟩ := r2.app _ _ _ _ (HR2.out V3 r2.2) (by omega) 22
              obtain ⟨X1, hX1⟩ : ∃ X1, (w0.alloc (.cells #[.int .i64 x] 3)).drew = X1 := ⟨_, rfl⟩
              have hX1b : w0.drew.alloc (.cells #[.int .i64 x] 3) = X1 := hX1
              have hEX : E w0 X1 := by rw [← hX1]; exact ((E.refl w0).alloc _).drew
              have hNX : Nums .i64 X1 (some ⟨w0.heap.size, 0, none⟩) 1 1 [x] := by rw [← hX1b]; exact nums_one2 w0.drew HWX.out
              obtain ⟨B1, e1, X2, sun1, s1, g1, _⟩ := (RowI.nil hEX).app _ _ _ _ (HR1.out _ hEX) (by omega) 22
              rw [Nat.zero_add, List.nil_append] at s1
              rw [Nat.zero_add] at sun1
              have hN2 : Nums .i64 X2 (some ⟨w0.heap.size, 0, none⟩) 1 1 [x] := nums_up hNX ((E.refl X1).grown g1 (fun k hk => by cases hk))
              obtain ⟨B2, e2, X3, sun2, s2, _⟩ := s1.app _ _ _ _ hN2 (by omega) 22
              obtain ⟨B3, e3, X4, sun3, s3, _⟩ := s2.app _ _ _ _ (HR2.out X3 s2.2) (by omega) 22
              have HA3 := Lib.hid r3
              have HB3 := Lib.hid s3
              refine wp_region_held_drew (S := (fun W => W.cell? ⟨b, o + i, none⟩ = some (.int .i64 x))) (by kernel_rfl) (HS.out _ hEd) (fun hHeld => ?_)
              (((refine wpAnyH_take (i := 0) (v := ?_) rfl (by kernel_rfl) (by kernel_rfl) (by kernel_rfl) (fun _ _ _ h => h) (Or.inl ⟨by kernel_rfl, ?_⟩) (by assumption) ?_); rotate_left 1; (focus (intro w hSw; (try dsimp only at hSw); go_simp; (try with_reducible rfl))); (try simp only [Act.put, sA, sB, sC])); ((refine wpAnyH_take (i := 1) (v := ?_) rfl (by kernel_rfl) (by kernel_rfl) (by kernel_rfl) (fun _ _ _ h => h) (Or.inl ⟨by kernel_rfl, ?_⟩) (by assumption) ?_); rotate_left 1; (focus (intro w hSw; (try dsimp only at hSw); go_simp; (try with_reducible rfl))); (try simp only [Act.put, sA, sB, sC])); ((refine wpAnyH_take (i := 2) (v := ?_) rfl (by kernel_rfl) (by kernel_rfl) (by kernel_rfl) (fun _ _ _ h => h) (Or.inl ⟨by kernel_rfl, ?_⟩) (by assumption) ?_); rotate_left 1; (focus (intro w hSw; (try dsimp only at hSw); go_simp; (try with_reducible rfl))); (try simp only [Act.put, sA, sB, sC])); ((refine wpAnyH_take (i := 3) (v := ?_) rfl (by kernel_rfl) (by kernel_rfl) (by kernel_rfl) (fun _ _ _ h => h) (Or.inl ⟨by kernel_rfl, ?_⟩) (by assumption) ?_); rotate_left 1; (focus (intro w hSw; (try dsimp only at hSw); go_simp; (try with_reducible rfl))); (try simp only [Act.put, sA, sB, sC])); ((refine wpAnyH_take (i := 5) (v := ?_) rfl (by kernel_rfl) (by kernel_rfl) (by kernel_rfl) (fun _ _ _ h => h) (Or.inl ⟨by kernel_rfl, ?_⟩) (by assumption) ?_); rotate_left 1; (focus (intro w hSw; (try dsimp only at hSw); go_simp; (try with_reducible rfl))); (try simp only [Act.put, sA, sB, sC])); ((refine wpAnyH_take (i := 6) (v := ?_) rfl (by kernel_rfl) (by kernel_rfl) (by kernel_rfl) (fun _ _ _ h => h) (Or.inl ⟨by kernel_rfl, ?_⟩) (by assumption) ?_); rotate_left 1; (focus (intro w hSw; (try dsimp only at hSw); go_simp; (try with_reducible rfl))); (try simp only [Act.put, sA, sB, sC])); ((refine wpAnyH_take (i := 7) (v := ?_) rfl (by kernel_rfl) (by kernel_rfl) (by kernel_rfl) (fun _ _ _ h => h) (Or.inl ⟨by kernel_rfl, ?_⟩) (by assumption) ?_); rotate_left 1; (focus (intro w hSw; (try dsimp only at hSw); go_simp; (try with_reducible rfl))); (try simp only [Act.put, sA, sB, sC])); ((refine wpAnyH_take (i := 8) (v := ?_) rfl (by kernel_rfl) (by kernel_rfl) (by kernel_rfl) (fun _ _ _ h => h) (Or.inl ⟨by kernel_rfl, ?_⟩) (by assumption) ?_); rotate_left 1; (focus (intro w hSw; (try dsimp only at hSw); go_simp; (try with_reducible rfl))); (try simp only [Act.put, sA, sB, sC])); ((refine wpAnyH_take (i := 11) (v := ?_) rfl (by kernel_rfl) (by kernel_rfl) (by kernel_rfl) (fun _ _ _ h => h) (Or.inl ⟨by kernel_rfl, ?_⟩) (by assumption) ?_); rotate_left 1; (focus (intro w hSw; (try dsimp only at hSw); go_simp; (try with_reducible rfl))); (try simp only [Act.put, sA, sB, sC])); ((refine wpAnyH_take (i := 12) (v := ?_) rfl (by kernel_rfl) (by kernel_rfl) (by kernel_rfl) (fun _ _ _ h => h) (Or.inl ⟨by kernel_rfl, ?_⟩) (by assumption) ?_); rotate_left 1; (focus (intro w hSw; (try dsimp only at hSw); go_simp; (try with_reducible rfl))); (try simp only [Act.put, sA, sB, sC])); ((refine wpAnyH_take (i := 13) (v := ?_) rfl (by kernel_rfl) (by kernel_rfl) (by kernel_rfl) (fun _ _ _ h => h) (Or.inl ⟨by kernel_rfl, ?_⟩) (by assumption) ?_); rotate_left 1; (focus (intro w hSw; (try dsimp only at hSw); go_simp; (try with_reducible rfl))); (try simp only [Act.put, sA, sB, sC])))
              simp only [List.getElem_toArray, List.getElem_cons_succ, List.getElem_cons_zero, Act.put, sA, sB, sC]
              refine wpAnyH_ready (rs := [4, 9]) (by kernel_rfl) (by simp) ?_
              refine AllReadyH.cons rfl (fun K hK => ?_) (AllReadyH.cons rfl (fun K hK => ?_) AllReadyH.nil)
              · refine step_app_runQ (by rfl) _ _ (by rfl) (by rfl) (by rfl) run1 ?_
                refine hK _ _ (HS.out _ r1.2) (fun hh => ?_)
                clear hK K hHeld
                have hHeld := hh
                clear hh
                (try simp only [List.getElem_toArray, List.getElem_cons_succ, List.getElem_cons_zero, Act.put, sA, sB, sC])
                (((refine wpAnyH_ready (rs := [9]) (by kernel_rfl) (by simp) ?_); (refine AllReadyH.cons rfl (fun K hK => ?_) AllReadyH.nil); (rw [if_pos (by kernel_rfl)]); go_simp))
                (try rw [hV2])
                refine hK _ _ (HS.out _ (r1.e_ hE12).2) (fun hh => ?_)
                clear hK K hHeld
                have hHeld := hh
                clear hh
                (try simp only [List.getElem_toArray, List.getElem_cons_succ, List.getElem_cons_zero, Act.put, sA, sB, sC])
                refine wpAnyH_ready (rs := [10]) (by kernel_rfl) (by simp) ?_
                refine AllReadyH.cons rfl (fun K hK => ?_) AllReadyH.nil
                refine step_app_runQ (by rfl) _ _ (by rfl) (by rfl) (by rfl) run2 ?_
                refine hK _ _ (HS.out _ r2.2) (fun hh => ?_)
                clear hK K hHeld
                have hHeld := hh
                clear hh
                (try simp only [List.getElem_toArray, List.getElem_cons_succ, List.getElem_cons_zero, Act.put, sA, sB, sC])
                refine wpAnyH_ready (rs := [14]) (by kernel_rfl) (by simp) ?_
                refine AllReadyH.cons rfl (fun K hK => ?_) AllReadyH.nil
                refine step_app_runQ (by rfl) _ _ (by rfl) (by rfl) (by rfl) run3 ?_
                refine hK _ _ (HS.out _ r3.2) (fun hh => ?_)
                clear hK K hHeld
                have hHeld := hh
                clear hh
                (try simp only [List.getElem_toArray, List.getElem_cons_succ, List.getElem_cons_zero, Act.put, sA, sB, sC])
                (((refine wpAnyH_take (i := 15) (v := ?_) rfl (by kernel_rfl) (by kernel_rfl) (by kernel_rfl) (fun _ _ _ h => h) (Or.inl ⟨by kernel_rfl, ?_⟩) (by assumption) ?_); rotate_left 1; (focus (intro w hSw; (try dsimp only at hSw); go_simp; (try with_reducible rfl))); (try simp only [Act.put, sA, sB, sC])))
                refine wpAnyH_done (by kernel_rfl) ?_ _
                go_simp
                clear hHeld
                go_wp2_with fail
                go_roundw
                case rel => exact ⟨i + 1, _, _, _, _, by omega, by go_num, rfl, (HA3.out.1.rebase (HEI.out.trans hE0).le).cast HR.out.symm, (HEI.out.trans hE0).trans HA3.out.2, rfl⟩
                case measure => simp [intOf]; omega
              · rw [if_pos (by kernel_rfl)]
                go_simp
                (try rw [hX1])
                (try rw [hX1b])
                refine hK _ _ (HS.out _ hEX) (fun hh => ?_)
                clear hK K hHeld
                have hHeld := hh
                clear hh
                (try simp only [List.getElem_toArray, List.getElem_cons_succ, List.getElem_cons_zero, Act.put, sA, sB, sC])
                refine wpAnyH_ready (rs := [4]) (by kernel_rfl) (by simp) ?_
                refine AllReadyH.cons rfl (fun K hK => ?_) AllReadyH.nil
                refine step_app_runQ (by rfl) _ _ (by rfl) (by rfl) (by rfl) sun1 ?_
                refine hK _ _ (HS.out _ s1.2) (fun hh => ?_)
                clear hK K hHeld
                have hHeld := hh
                clear hh
                (try simp only [List.getElem_toArray, List.getElem_cons_succ, List.getElem_cons_zero, Act.put, sA, sB, sC])
                refine wpAnyH_ready (rs := [10]) (by kernel_rfl) (by simp) ?_
                refine AllReadyH.cons rfl (fun K hK => ?_) AllReadyH.nil
                refine step_app_runQ (by rfl) _ _ (by rfl) (by rfl) (by rfl) sun2 ?_
                refine hK _ _ (HS.out _ s2.2) (fun hh => ?_)
                clear hK K hHeld
                have hHeld := hh
                clear hh
                (try simp only [List.getElem_toArray, List.getElem_cons_succ, List.getElem_cons_zero, Act.put, sA, sB, sC])
                refine wpAnyH_ready (rs := [14]) (by kernel_rfl) (by simp) ?_
                refine AllReadyH.cons rfl (fun K hK => ?_) AllReadyH.nil
                refine step_app_runQ (by rfl) _ _ (by rfl) (by rfl) (by rfl) sun3 ?_
                refine hK _ _ (HS.out _ s3.2) (fun hh => ?_)
                clear hK K hHeld
                have hHeld := hh
                clear hh
                (try simp only [List.getElem_toArray, List.getElem_cons_succ, List.getElem_cons_zero, Act.put, sA, sB, sC])
                (((refine wpAnyH_take (i := 15) (v := ?_) rfl (by kernel_rfl) (by kernel_rfl) (by kernel_rfl) (fun _ _ _ h => h) (Or.inl ⟨by kernel_rfl, ?_⟩) (by assumption) ?_); rotate_left 1; (focus (intro w hSw; (try dsimp only at hSw); go_simp; (try with_reducible rfl))); (try simp only [Act.put, sA, sB, sC])))
                refine wpAnyH_done (by kernel_rfl) ?_ _
                go_simp
                clear hHeld
                go_wp2_with fail
                go_roundw
                case rel => exact ⟨i + 1, _, _, _, _, by omega, by go_num, rfl, (HB3.out.1.rebase (HEI.out.trans hE0).le).cast HR.out.symm, (HEI.out.trans hE0).trans HB3.out.2, rfl⟩
                case measure => simp [intOf]; omega
          · have hkn : k = no := by omega
            subst hkn
            have hkl2 : ¬ (k : Int) < (k : Int) := by omega
            have HR := Lib.hid (show sortI (l.take (i + 1)) = out.take k ++ [x] ++ out.drop k by
              rw [HNX.out]
              rcases HSP.out with ⟨h2, _⟩ | ⟨_, h2⟩
              · rw [List.getElem?_eq_none (by rw [HNO.out]; exact Nat.le_refl _)] at h2; cases h2
              · exact h2)
            clear hstop hlo
            go_upto_region 6 with fail
            (refine wp_region_quiet_lit (by kernel_rfl) (by kernel_rfl) ?_; (repeat (first | ((with_reducible refine wpQuiet_step (fun K hK => ?_)); go_simp; (with_reducible refine hK _ ?_); clear hK K) | ((with_reducible refine wpQuiet_off (by kernel_rfl) (fun K hK => ?_)); go_simp; (with_reducible refine hK _ ?_); clear hK K))); (with_reducible refine wpQuiet_nil ?_); intro _ hw'; obtain ⟨nq, hw''⟩ := hw'; subst hw'')
            go_upto_region 8 with fail
            obtain ⟨ws, hws⟩ : ∃ ws, wr.drewN nq = ws := ⟨_, rfl⟩
            have hEs : E wr ws := by rw [← hws]; exact (E.refl wr).drewN nq
            rw [hws]
            have hcx2 := HCX.out ws (hE.trans hEs)
            clear hcx hws
            have HR := Lib.hid (show sortI (l.take (i + 1)) = out.take k ++ [x] ++ [] by rw [HR.out, List.drop_eq_nil_of_le (by rw [HNO.out]; exact Nat.le_refl _)])
            rcases hform with ⟨rfl, h0, h1⟩ | ⟨go, rfl, _, _, hnc, hcm⟩
            · subst h0 h1
              (refine wp_region_quiet_lit (by kernel_rfl) (by kernel_rfl) ?_; (repeat (first | ((with_reducible refine wpQuiet_step (fun K hK => ?_)); go_simp; (with_reducible refine hK _ ?_); clear hK K) | ((with_reducible refine wpQuiet_off (by kernel_rfl) (fun K hK => ?_)); go_simp; (with_reducible refine hK _ ?_); clear hK K))); (with_reducible refine wpQuiet_nil ?_); intro _ hw'; obtain ⟨nq, hw''⟩ := hw'; subst hw'')
              go_upto_region 10 with fail
              obtain ⟨w0, hw0⟩ : ∃ w0, ws.drewN nq = w0 := ⟨_, rfl⟩
              have hE0 : E wq w0 := by rw [← hw0]; exact (hE.trans hEs).drewN nq
              rw [hw0]
              clear hw0
              have HS := Lib.hid (fun W (hW : E w0 W) => HCX.out W (hE0.trans hW))
              have HR1 := Lib.hid (fun W (hW : E w0 W) => nums_take ((HOI.out.reads.e (hE0.trans hW))) (m := 0) (by omega))
              have HR2 := Lib.hid (fun (W : World) (hW : E w0 W) => (Nums.nil .i64 W none 0 (Nat.zero_le _)))
              have hEd : E w0 w0.drew := (E.refl w0).drew
              obtain ⟨A1, d1, V1, run1, r1, _⟩ := (RowI.nil hEd).app _ _ _ _ (HR1.out _ hEd) (by omega) 22
              rw [Nat.zero_add, List.nil_append] at r1
              rw [Nat.zero_add] at run1
              obtain ⟨V2, hV2⟩ : ∃ V2, V1.alloc (.cells #[.int .i64 x] 3) = V2 := ⟨_, rfl⟩
              have hE12 : E V1 V2 := by rw [← hV2]; exact (E.refl V1).alloc _
              obtain ⟨A2, d2, V3, run2, r2, _⟩ := (r1.e_ hE12).app _ _ _ _ (show Nums .i64 V2 (some ⟨V1.heap.size, 0, none⟩) 1 1 [x] by rw [← hV2]; exact nums_one2 V1 HWX.out) (by omega) 22
              obtain ⟨A3, d3, V4, run3, r3, _⟩ := r2.app _ _ _ _ (HR2.out V3 r2.2) (by omega) 22
              obtain ⟨X1, hX1⟩ : ∃ X1, (w0.alloc (.cells #[.int .i64 x] 3)).drew = X1 := ⟨_, rfl⟩
              have hX1b : w0.drew.alloc (.cells #[.int .i64 x] 3) = X1 := hX1
              have hEX : E w0 X1 := by rw [← hX1]; exact ((E.refl w0).alloc _).drew
              have hNX : Nums .i64 X1 (some ⟨w0.heap.size, 0, none⟩) 1 1 [x] := by rw [← hX1b]; exact nums_one2 w0.drew HWX.out
              obtain ⟨B1, e1, X2, sun1, s1, g1, _⟩ := (RowI.nil hEX).app _ _ _ _ (HR1.out _ hEX) (by omega) 22
              rw [Nat.zero_add, List.nil_append] at s1
              rw [Nat.zero_add] at sun1
              have hN2 : Nums .i64 X2 (some ⟨w0.heap.size, 0, none⟩) 1 1 [x] := nums_up hNX ((E.refl X1).grown g1 (fun k hk => by cases hk))
              obtain ⟨B2, e2, X3, sun2, s2, _⟩ := s1.app _ _ _ _ hN2 (by omega) 22
              obtain ⟨B3, e3, X4, sun3, s3, _⟩ := s2.app _ _ _ _ (HR2.out X3 s2.2) (by omega) 22
              have HA3 := Lib.hid r3
              have HB3 := Lib.hid s3
              refine wp_region_held_drew (S := (fun W => W.cell? ⟨b, o + i, none⟩ = some (.int .i64 x))) (by kernel_rfl) (HS.out _ hEd) (fun hHeld => ?_)
              (((refine wpAnyH_take (i := 0) (v := ?_) rfl (by kernel_rfl) (by kernel_rfl) (by kernel_rfl) (fun _ _ _ h => h) (Or.inl ⟨by kernel_rfl, ?_⟩) (by assumption) ?_); rotate_left 1; (focus (intro w hSw; (try dsimp only at hSw); go_simp; (try with_reducible rfl))); (try simp only [Act.put, sA, sB, sC])); ((refine wpAnyH_take (i := 1) (v := ?_) rfl (by kernel_rfl) (by kernel_rfl) (by kernel_rfl) (fun _ _ _ h => h) (Or.inl ⟨by kernel_rfl, ?_⟩) (by assumption) ?_); rotate_left 1; (focus (intro w hSw; (try dsimp only at hSw); go_simp; (try with_reducible rfl))); (try simp only [Act.put, sA, sB, sC])); ((refine wpAnyH_take (i := 2) (v := ?_) rfl (by kernel_rfl) (by kernel_rfl) (by kernel_rfl) (fun _ _ _ h => h) (Or.inl ⟨by kernel_rfl, ?_⟩) (by assumption) ?_); rotate_left 1; (focus (intro w hSw; (try dsimp only at hSw); go_simp; (try with_reducible rfl))); (try simp only [Act.put, sA, sB, sC])); ((refine wpAnyH_take (i := 3) (v := ?_) rfl (by kernel_rfl) (by kernel_rfl) (by kernel_rfl) (fun _ _ _ h => h) (Or.inl ⟨by kernel_rfl, ?_⟩) (by assumption) ?_); rotate_left 1; (focus (intro w hSw; (try dsimp only at hSw); go_simp; (try with_reducible rfl))); (try simp only [Act.put, sA, sB, sC])); ((refine wpAnyH_take (i := 5) (v := ?_) rfl (by kernel_rfl) (by kernel_rfl) (by kernel_rfl) (fun _ _ _ h => h) (Or.inl ⟨by kernel_rfl, ?_⟩) (by assumption) ?_); rotate_left 1; (focus (intro w hSw; (try dsimp only at hSw); go_simp; (try with_reducible rfl))); (try simp only [Act.put, sA, sB, sC])); ((refine wpAnyH_take (i := 6) (v := ?_) rfl (by kernel_rfl) (by kernel_rfl) (by kernel_rfl) (fun _ _ _ h => h) (Or.inl ⟨by kernel_rfl, ?_⟩) (by assumption) ?_); rotate_left 1; (focus (intro w hSw; (try dsimp only at hSw); go_simp; (try with_reducible rfl))); (try simp only [Act.put, sA, sB, sC])); ((refine wpAnyH_take (i := 7) (v := ?_) rfl (by kernel_rfl) (by kernel_rfl) (by kernel_rfl) (fun _ _ _ h => h) (Or.inl ⟨by kernel_rfl, ?_⟩) (by assumption) ?_); rotate_left 1; (focus (intro w hSw; (try dsimp only at hSw); go_simp; (try with_reducible rfl))); (try simp only [Act.put, sA, sB, sC])); ((refine wpAnyH_take (i := 8) (v := ?_) rfl (by kernel_rfl) (by kernel_rfl) (by kernel_rfl) (fun _ _ _ h => h) (Or.inl ⟨by kernel_rfl, ?_⟩) (by assumption) ?_); rotate_left 1; (focus (intro w hSw; (try dsimp only at hSw); go_simp; (try with_reducible rfl))); (try simp only [Act.put, sA, sB, sC])); ((refine wpAnyH_take (i := 11) (v := ?_) rfl (by kernel_rfl) (by kernel_rfl) (by kernel_rfl) (fun _ _ _ h => h) (Or.inl ⟨by kernel_rfl, ?_⟩) (by assumption) ?_); rotate_left 1; (focus (intro w hSw; (try dsimp only at hSw); go_simp; (try with_reducible rfl))); (try simp only [Act.put, sA, sB, sC])); ((refine wpAnyH_take (i := 12) (v := ?_) rfl (by kernel_rfl) (by kernel_rfl) (by kernel_rfl) (fun _ _ _ h => h) (Or.inl ⟨by kernel_rfl, ?_⟩) (by assumption) ?_); rotate_left 1; (focus (intro w hSw; (try dsimp only at hSw); go_simp; (try with_reducible rfl))); (try simp only [Act.put, sA, sB, sC])); ((refine wpAnyH_take (i := 13) (v := ?_) rfl (by kernel_rfl) (by kernel_rfl) (by kernel_rfl) (fun _ _ _ h => h) (Or.inl ⟨by kernel_rfl, ?_⟩) (by assumption) ?_); rotate_left 1; (focus (intro w hSw; (try dsimp only at hSw); go_simp; (try with_reducible rfl))); (try simp only [Act.put, sA, sB, sC])))
              simp only [List.getElem_toArray, List.getElem_cons_succ, List.getElem_cons_zero, Act.put, sA, sB, sC]
              refine wpAnyH_ready (rs := [4, 9]) (by kernel_rfl) (by simp) ?_
              refine AllReadyH.cons rfl (fun K hK => ?_) (AllReadyH.cons rfl (fun K hK => ?_) AllReadyH.nil)
              · refine step_app_runQ (by rfl) _ _ (by rfl) (by rfl) (by rfl) run1 ?_
                refine hK _ _ (HS.out _ r1.2) (fun hh => ?_)
                clear hK K hHeld
                have hHeld := hh
                clear hh
                (try simp only [List.getElem_toArray, List.getElem_cons_succ, List.getElem_cons_zero, Act.put, sA, sB, sC])
                (((refine wpAnyH_ready (rs := [9]) (by kernel_rfl) (by simp) ?_); (refine AllReadyH.cons rfl (fun K hK => ?_) AllReadyH.nil); (rw [if_pos (by kernel_rfl)]); go_simp))
                (try rw [hV2])
                refine hK _ _ (HS.out _ (r1.e_ hE12).2) (fun hh => ?_)
                clear hK K hHeld
                have hHeld := hh
                clear hh
                (try simp only [List.getElem_toArray, List.getElem_cons_succ, List.getElem_cons_zero, Act.put, sA, sB, sC])
                refine wpAnyH_ready (rs := [10]) (by kernel_rfl) (by simp) ?_
                refine AllReadyH.cons rfl (fun K hK => ?_) AllReadyH.nil
                refine step_app_runQ (by rfl) _ _ (by rfl) (by rfl) (by rfl) run2 ?_
                refine hK _ _ (HS.out _ r2.2) (fun hh => ?_)
                clear hK K hHeld
                have hHeld := hh
                clear hh
                (try simp only [List.getElem_toArray, List.getElem_cons_succ, List.getElem_cons_zero, Act.put, sA, sB, sC])
                refine wpAnyH_ready (rs := [14]) (by kernel_rfl) (by simp) ?_
                refine AllReadyH.cons rfl (fun K hK => ?_) AllReadyH.nil
                refine step_app_runQ (by rfl) _ _ (by rfl) (by rfl) (by rfl) run3 ?_
                refine hK _ _ (HS.out _ r3.2) (fun hh => ?_)
                clear hK K hHeld
                have hHeld := hh
                clear hh
                (try simp only [List.getElem_toArray, List.getElem_cons_succ, List.getElem_cons_zero, Act.put, sA, sB, sC])
                (((refine wpAnyH_take (i := 15) (v := ?_) rfl (by kernel_rfl) (by kernel_rfl) (by kernel_rfl) (fun _ _ _ h => h) (Or.inl ⟨by kernel_rfl, ?_⟩) (by assumption) ?_); rotate_left 1; (focus (intro w hSw; (try dsimp only at hSw); go_simp; (try with_reducible rfl))); (try simp only [Act.put, sA, sB, sC])))
                refine wpAnyH_done (by kernel_rfl) ?_ _
                go_simp
                clear hHeld
                go_wp2_with fail
                go_roundw
                case rel => exact ⟨i + 1, _, _, _, _, by omega, by go_num, rfl, (HA3.out.1.rebase (HEI.out.trans hE0).le).cast HR.out.symm, (HEI.out.trans hE0).trans HA3.out.2, rfl⟩
                case measure => simp [intOf]; omega
              · rw [if_pos (by kernel_rfl)]
                go_simp
                (try rw [hX1])
                (try rw [hX1b])
                refine hK _ _ (HS.out _ hEX) (fun hh => ?_)
                clear hK K hHeld
                have hHeld := hh
                clear hh
                (try simp only [List.getElem_toArray, List.getElem_cons_succ, List.getElem_cons_zero, Act.put, sA, sB, sC])
                refine wpAnyH_ready (rs := [4]) (by kernel_rfl) (by simp) ?_
                refine AllReadyH.cons rfl (fun K hK => ?_) AllReadyH.nil
                refine step_app_runQ (by rfl) _ _ (by rfl) (by rfl) (by rfl) sun1 ?_
                refine hK _ _ (HS.out _ s1.2) (fun hh => ?_)
                clear hK K hHeld
                have hHeld := hh
                clear hh
                (try simp only [List.getElem_toArray, List.getElem_cons_succ, List.getElem_cons_zero, Act.put, sA, sB, sC])
                refine wpAnyH_ready (rs := [10]) (by kernel_rfl) (by simp) ?_
                refine AllReadyH.cons rfl (fun K hK => ?_) AllReadyH.nil
                refine step_app_runQ (by rfl) _ _ (by rfl) (by rfl) (by rfl) sun2 ?_
                refine hK _ _ (HS.out _ s2.2) (fun hh => ?_)
                clear hK K hHeld
                have hHeld := hh
                clear hh
                (try simp only [List.getElem_toArray, List.getElem_cons_succ, List.getElem_cons_zero, Act.put, sA, sB, sC])
                refine wpAnyH_ready (rs := [14]) (by kernel_rfl) (by simp) ?_
                refine AllReadyH.cons rfl (fun K hK => ?_) AllReadyH.nil
                refine step_app_runQ (by rfl) _ _ (by rfl) (by rfl) (by rfl) sun3 ?_
                refine hK _ _ (HS.out _ s3.2) (fun hh => ?_)
                clear hK K hHeld
                have hHeld := hh
                clear hh
                (try simp only [List.getElem_toArray, List.getElem_cons_succ, List.getElem_cons_zero, Act.put, sA, sB, sC])
                (((refine wpAnyH_take (i := 15) (v := ?_) rfl (by kernel_rfl) (by kernel_rfl) (by kernel_rfl) (fun _ _ _ h => h) (Or.inl ⟨by kernel_rfl, ?_⟩) (by assumption) ?_); rotate_left 1; (focus (intro w hSw; (try dsimp only at hSw); go_simp; (try with_reducible rfl))); (try simp only [Act.put, sA, sB, sC])))
                refine wpAnyH_done (by kernel_rfl) ?_ _
                go_simp
                clear hHeld
                go_wp2_with fail
                go_roundw
                case rel => exact ⟨i + 1, _, _, _, _, by omega, by go_num, rfl, (HB3.out.1.rebase (HEI.out.trans hE0).le).cast HR.out.symm, (HEI.out.trans hE0).trans HB3.out.2, rfl⟩
                case measure => simp [intOf]; omega
            · have hkc : (k : Int) ≤ (co : Int) := by omega
              have hkz : (0 : Int) ≤ (k : Int) := by omega
              by_cases hck : co = k
              · subst hck
                (refine wp_region_quiet_lit (by kernel_rfl) (by kernel_rfl) ?_; (repeat (first | ((with_reducible refine wpQuiet_step (fun K hK => ?_)); go_simp; (with_reducible refine hK _ ?_); clear hK K) | ((with_reducible refine wpQuiet_off (by kernel_rfl) (fun K hK => ?_)); go_simp; (with_reducible refine hK _ ?_); clear hK K))); (with_reducible refine wpQuiet_nil ?_); intro _ hw'; obtain ⟨nq, hw''⟩ := hw'; subst hw'')
                go_upto_region 10 with fail
                obtain ⟨w0, hw0⟩ : ∃ w0, ws.drewN nq = w0 := ⟨_, rfl⟩
                have hE0 : E wq w0 := by rw [← hw0]; exact (hE.trans hEs).drewN nq
                rw [hw0]
                clear hw0
                have HS := Lib.hid (fun W (hW : E w0 W) => HCX.out W (hE0.trans hW))
                have HR1 := Lib.hid (fun W (hW : E w0 W) => nums_take ((HOI.out.reads.e (hE0.trans hW))) (m := co) (by omega))
                have HR2 := Lib.hid (fun (W : World) (hW : E w0 W) => (Nums.nil .i64 W (some ⟨go, 0, none⟩) 0 (Nat.zero_le _)))
                have hEd : E w0 w0.drew := (E.refl w0).drew
                obtain ⟨A1, d1, V1, run1, r1, _⟩ := (RowI.nil hEd).app _ _ _ _ (HR1.out _ hEd) (by omega) 22
                rw [Nat.zero_add, List.nil_append] at r1
                rw [Nat.zero_add] at run1
                obtain ⟨V2, hV2⟩ : ∃ V2, V1.alloc (.cells #[.int .i64 x] 3) = V2 := ⟨_, rfl⟩
                have hE12 : E V1 V2 := by rw [← hV2]; exact (E.refl V1).alloc _
                obtain ⟨A2, d2, V3, run2, r2, _⟩ := (r1.e_ hE12).app _ _ _ _ (show Nums .i64 V2 (some ⟨V1.heap.size, 0, none⟩) 1 1 [x] by rw [← hV2]; exact nums_one2 V1 HWX.out) (by omega) 22
                obtain ⟨A3, d3, V4, run3, r3, _⟩ := r2.app _ _ _ _ (HR2.out V3 r2.2) (by omega) 22
                obtain ⟨X1, hX1⟩ : ∃ X1, (w0.alloc (.cells #[.int .i64 x] 3)).drew = X1 := ⟨_, rfl⟩
                have hX1b : w0.drew.alloc (.cells #[.int .i64 x] 3) = X1 := hX1
                have hEX : E w0 X1 := by rw [← hX1]; exact ((E.refl w0).alloc _).drew
                have hNX : Nums .i64 X1 (some ⟨w0.heap.size, 0, none⟩) 1 1 [x] := by rw [← hX1b]; exact nums_one2 w0.drew HWX.out
                obtain ⟨B1, e1, X2, sun1, s1, g1, _⟩ := (RowI.nil hEX).app _ _ _ _ (HR1.out _ hEX) (by omega) 22
                rw [Nat.zero_add, List.nil_append] at s1
                rw [Nat.zero_add] at sun1
                have hN2 : Nums .i64 X2 (some ⟨w0.heap.size, 0, none⟩) 1 1 [x] := nums_up hNX ((E.refl X1).grown g1 (fun k hk => by cases hk))
                obtain ⟨B2, e2, X3, sun2, s2, _⟩ := s1.app _ _ _ _ hN2 (by omega) 22
                obtain ⟨B3, e3, X4, sun3, s3, _⟩ := s2.app _ _ _ _ (HR2.out X3 s2.2) (by omega) 22
                have HA3 := Lib.hid r3
                have HB3 := Lib.hid s3
                refine wp_region_held_drew (S := (fun W => W.cell? ⟨b, o + i, none⟩ = some (.int .i64 x))) (by kernel_rfl) (HS.out _ hEd) (fun hHeld => ?_)
                (((refine wpAnyH_take (i := 0) (v := ?_) rfl (by kernel_rfl) (by kernel_rfl) (by kernel_rfl) (fun _ _ _ h => h) (Or.inl ⟨by kernel_rfl, ?_⟩) (by assumption) ?_); rotate_left 1; (focus (intro w hSw; (try dsimp only at hSw); go_simp; (try with_reducible rfl))); (try simp only [Act.put, sA, sB, sC])); ((refine wpAnyH_take (i := 1) (v := ?_) rfl (by kernel_rfl) (by kernel_rfl) (by kernel_rfl) (fun _ _ _ h => h) (Or.inl ⟨by kernel_rfl, ?_⟩) (by assumption) ?_); rotate_left 1; (focus (intro w hSw; (try dsimp only at hSw); go_simp; (try with_reducible rfl))); (try simp only [Act.put, sA, sB, sC])); ((refine wpAnyH_take (i := 2) (v := ?_) rfl (by kernel_rfl) (by kernel_rfl) (by kernel_rfl) (fun _ _ _ h => h) (Or.inl ⟨by kernel_rfl, ?_⟩) (by assumption) ?_); rotate_left 1; (focus (intro w hSw; (try dsimp only at hSw); go_simp; (try with_reducible rfl))); (try simp only [Act.put, sA, sB, sC])); ((refine wpAnyH_take (i := 3) (v := ?_) rfl (by kernel_rfl) (by kernel_rfl) (by kernel_rfl) (fun _ _ _ h => h) (Or.inl ⟨by kernel_rfl, ?_⟩) (by assumption) ?_); rotate_left 1; (focus (intro w hSw; (try dsimp only at hSw); go_simp; (try with_reducible rfl))); (try simp only [Act.put, sA, sB, sC])); ((refine wpAnyH_take (i := 5) (v := ?_) rfl (by kernel_rfl) (by kernel_rfl) (by kernel_rfl) (fun _ _ _ h => h) (Or.inl ⟨by kernel_rfl, ?_⟩) (by assumption) ?_); rotate_left 1; (focus (intro w hSw; (try dsimp only at hSw); go_simp; (try with_reducible rfl))); (try simp only [Act.put, sA, sB, sC])); ((refine wpAnyH_take (i := 6) (v := ?_) rfl (by kernel_rfl) (by kernel_rfl) (by kernel_rfl) (fun _ _ _ h => h) (Or.inl ⟨by kernel_rfl, ?_⟩) (by assumption) ?_); rotate_left 1; (focus (intro w hSw; (try dsimp only at hSw); go_simp; (try with_reducible rfl))); (try simp only [Act.put, sA, sB, sC])); ((refine wpAnyH_take (i := 7) (v := ?_) rfl (by kernel_rfl) (by kernel_rfl) (by kernel_rfl) (fun _ _ _ h => h) (Or.inl ⟨by kernel_rfl, ?_⟩) (by assumption) ?_); rotate_left 1; (focus (intro w hSw; (try dsimp only at hSw); go_simp; (try with_reducible rfl))); (try simp only [Act.put, sA, sB, sC])); ((refine wpAnyH_take (i := 8) (v := ?_) rfl (by kernel_rfl) (by kernel_rfl) (by kernel_rfl) (fun _ _ _ h => h) (Or.inl ⟨by kernel_rfl, ?_⟩) (by assumption) ?_); rotate_left 1; (focus (intro w hSw; (try dsimp only at hSw); go_simp; (try with_reducible rfl))); (try simp only [Act.put, sA, sB, sC])); ((refine wpAnyH_take (i := 11) (v := ?_) rfl (by kernel_rfl) (by kernel_rfl) (by kernel_rfl) (fun _ _ _ h => h) (Or.inl ⟨by kernel_rfl, ?_⟩) (by assumption) ?_); rotate_left 1; (focus (intro w hSw; (try dsimp only at hSw); go_simp; (try with_reducible rfl))); (try simp only [Act.put, sA, sB, sC])); ((refine wpAnyH_take (i := 12) (v := ?_) rfl (by kernel_rfl) (by kernel_rfl) (by kernel_rfl) (fun _ _ _ h => h) (Or.inl ⟨by kernel_rfl, ?_⟩) (by assumption) ?_); rotate_left 1; (focus (intro w hSw; (try dsimp only at hSw); go_simp; (try with_reducible rfl))); (try simp only [Act.put, sA, sB, sC])); ((refine wpAnyH_take (i := 13) (v := ?_) rfl (by kernel_rfl) (by kernel_rfl) (by kernel_rfl) (fun _ _ _ h => h) (Or.inl ⟨by kernel_rfl, ?_⟩) (by assumption) ?_); rotate_left 1; (focus (intro w hSw; (try dsimp only at hSw); go_simp; (try with_reducible rfl))); (try simp only [Act.put, sA, sB, sC])))
                simp only [List.getElem_toArray, List.getElem_cons_succ, List.getElem_cons_zero, Act.put, sA, sB, sC]
                refine wpAnyH_ready (rs := [4, 9]) (by kernel_rfl) (by simp) ?_
                refine AllReadyH.cons rfl (fun K hK => ?_) (AllReadyH.cons rfl (fun K hK => ?_) AllReadyH.nil)
                · refine step_app_runQ (by rfl) _ _ (by rfl) (by rfl) (by rfl) run1 ?_
                  refine hK _ _ (HS.out _ r1.2) (fun hh => ?_)
                  clear hK K hHeld
                  have hHeld := hh
                  clear hh
                  (try simp only [List.getElem_toArray, List.getElem_cons_succ, List.getElem_cons_zero, Act.put, sA, sB, sC])
                  (((refine wpAnyH_ready (rs := [9]) (by kernel_rfl) (by simp) ?_); (refine AllReadyH.cons rfl (fun K hK => ?_) AllReadyH.nil); (rw [if_pos (by kernel_rfl)]); go_simp))
                  (try rw [hV2])
                  refine hK _ _ (HS.out _ (r1.e_ hE12).2) (fun hh => ?_)
                  clear hK K hHeld
                  have hHeld := hh
                  clear hh
                  (try simp only [List.getElem_toArray, List.getElem_cons_succ, List.getElem_cons_zero, Act.put, sA, sB, sC])
                  refine wpAnyH_ready (rs := [10]) (by kernel_rfl) (by simp) ?_
                  refine AllReadyH.cons rfl (fun K hK => ?_) AllReadyH.nil
                  refine step_app_runQ (by rfl) _ _ (by rfl) (by rfl) (by rfl) run2 ?_
                  refine hK _ _ (HS.out _ r2.2) (fun hh => ?_)
                  clear hK K hHeld
                  have hHeld := hh
                  clear hh
                  (try simp only [List.getElem_toArray, List.getElem_cons_succ, List.getElem_cons_zero, Act.put, sA, sB, sC])
                  refine wpAnyH_ready (rs := [14]) (by kernel_rfl) (by simp) ?_
                  refine AllReadyH.cons rfl (fun K hK => ?_) AllReadyH.nil
                  refine step_app_runQ (by rfl) _ _ (by rfl) (by rfl) (by rfl) run3 ?_
                  refine hK _ _ (HS.out _ r3.2) (fun hh => ?_)
                  clear hK K hHeld
                  have hHeld := hh
                  clear hh
                  (try simp only [List.getElem_toArray, List.getElem_cons_succ, List.getElem_cons_zero, Act.put, sA, sB, sC])
                  (((refine wpAnyH_take (i := 15) (v := ?_) rfl (by kernel_rfl) (by kernel_rfl) (by kernel_rfl) (fun _ _ _ h => h) (Or.inl ⟨by kernel_rfl, ?_⟩) (by assumption) ?_); rotate_left 1; (focus (intro w hSw; (try dsimp only at hSw); go_simp; (try with_reducible rfl))); (try simp only [Act.put, sA, sB, sC])))
                  refine wpAnyH_done (by kernel_rfl) ?_ _
                  go_simp
                  clear hHeld
                  go_wp2_with fail
                  go_roundw
                  case rel => exact ⟨i + 1, _, _, _, _, by omega, by go_num, rfl, (HA3.out.1.rebase (HEI.out.trans hE0).le).cast HR.out.symm, (HEI.out.trans hE0).trans HA3.out.2, rfl⟩
                  case measure => simp [intOf]; omega
                · rw [if_pos (by kernel_rfl)]
                  go_simp
                  (try rw [hX1])
                  (try rw [hX1b])
                  refine hK _ _ (HS.out _ hEX) (fun hh => ?_)
                  clear hK K hHeld
                  have hHeld := hh
                  clear hh
                  (try simp only [List.getElem_toArray, List.getElem_cons_succ, List.getElem_cons_zero, Act.put, sA, sB, sC])
                  refine wpAnyH_ready (rs := [4]) (by kernel_rfl) (by simp) ?_
                  refine AllReadyH.cons rfl (fun K hK => ?_) AllReadyH.nil
                  refine step_app_runQ (by rfl) _ _ (by rfl) (by rfl) (by rfl) sun1 ?_
                  refine hK _ _ (HS.out _ s1.2) (fun hh => ?_)
                  clear hK K hHeld
                  have hHeld := hh
                  clear hh
                  (try simp only [List.getElem_toArray, List.getElem_cons_succ, List.getElem_cons_zero, Act.put, sA, sB, sC])
                  refine wpAnyH_ready (rs := [10]) (by kernel_rfl) (by simp) ?_
                  refine AllReadyH.cons rfl (fun K hK => ?_) AllReadyH.nil
                  refine step_app_runQ (by rfl) _ _ (by rfl) (by rfl) (by rfl) sun2 ?_
                  refine hK _ _ (HS.out _ s2.2) (fun hh => ?_)
                  clear hK K hHeld
                  have hHeld := hh
                  clear hh
                  (try simp only [List.getElem_toArray, List.getElem_cons_succ, List.getElem_cons_zero, Act.put, sA, sB, sC])
                  refine wpAnyH_ready (rs := [14]) (by kernel_rfl) (by simp) ?_
                  refine AllReadyH.cons rfl (fun K hK => ?_) AllReadyH.nil
                  refine step_app_runQ (by rfl) _ _ (by rfl) (by rfl) (by rfl) sun3 ?_
                  refine hK _ _ (HS.out _ s3.2) (fun hh => ?_)
                  clear hK K hHeld
                  have hHeld := hh
                  clear hh
                  (try simp only [List.getElem_toArray, List.getElem_cons_succ, List.getElem_cons_zero, Act.put, sA, sB, sC])
                  (((refine wpAnyH_take (i := 15) (v := ?_) rfl (by kernel_rfl) (by kernel_rfl) (by kernel_rfl) (fun _ _ _ h => h) (Or.inl ⟨by kernel_rfl, ?_⟩) (by assumption) ?_); rotate_left 1; (focus (intro w hSw; (try dsimp only at hSw); go_simp; (try with_reducible rfl))); (try simp only [Act.put, sA, sB, sC])))
                  refine wpAnyH_done (by kernel_rfl) ?_ _
                  go_simp
                  clear hHeld
                  go_wp2_with fail
                  go_roundw
                  case rel => exact ⟨i + 1, _, _, _, _, by omega, by go_num, rfl, (HB3.out.1.rebase (HEI.out.trans hE0).le).cast HR.out.symm, (HEI.out.trans hE0).trans HB3.out.2, rfl⟩
                  case measure => simp [intOf]; omega
              · have hck2 : ¬ co = k := hck
                (refine wp_region_quiet_lit (by kernel_rfl) (by kernel_rfl) ?_; (repeat (first | ((with_reducible refine wpQuiet_step (fun K hK => ?_)); go_simp; (with_reducible refine hK _ ?_); clear hK K) | ((with_reducible refine wpQuiet_off (by kernel_rfl) (fun K hK => ?_)); go_simp; (with_reducible refine hK _ ?_); clear hK K))); (with_reducible refine wpQuiet_nil ?_); intro _ hw'; obtain ⟨nq, hw''⟩ := hw'; subst hw'')
                go_upto_region 10 with fail
                obtain ⟨w0, hw0⟩ : ∃ w0, ws.drewN nq = w0 := ⟨_, rfl⟩
                have hE0 : E wq w0 := by rw [← hw0]; exact (hE.trans hEs).drewN nq
                rw [hw0]
                clear hw0
                have HS := Lib.hid (fun W (hW : E w0 W) => HCX.out W (hE0.trans hW))
                have HR1 := Lib.hid (fun W (hW : E w0 W) => nums_take ((HOI.out.reads.e (hE0.trans hW))) (m := k) (by omega))
                have HR2 := Lib.hid (fun (W : World) (hW : E w0 W) => (Nums.nil .i64 W (some ⟨go, k, none⟩) (co - k) (by omega)))
                have hEd : E w0 w0.drew := (E.refl w0).drew
                obtain ⟨A1, d1, V1, run1, r1, _⟩ := (RowI.nil hEd).app _ _ _ _ (HR1.out _ hEd) (by omega) 22
                rw [Nat.zero_add, List.nil_append] at r1
                rw [Nat.zero_add] at run1
                obtain ⟨V2, hV2⟩ : ∃ V2, V1.alloc (.cells #[.int .i64 x] 3) = V2 := ⟨_, rfl⟩
                have hE12 : E V1 V2 := by rw [← hV2]; exact (E.refl V1).alloc _
                obtain ⟨A2, d2, V3, run2, r2, _⟩ := (r1.e_ hE12).app _ _ _ _ (show Nums .i64 V2 (some ⟨V1.heap.size, 0, none⟩) 1 1 [x] by rw [← hV2]; exact nums_one2 V1 HWX.out) (by omega) 22
                obtain ⟨A3, d3, V4, run3, r3, _⟩ := r2.app _ _ _ _ (HR2.out V3 r2.2) (by omega) 22
                obtain ⟨X1, hX1⟩ : ∃ X1, (w0.alloc (.cells #[.int .i64 x] 3)).drew = X1 := ⟨_, rfl⟩
                have hX1b : w0.drew.alloc (.cells #[.int .i64 x] 3) = X1 := hX1
                have hEX : E w0 X1 := by rw [← hX1]; exact ((E.refl w0).alloc _).drew
                have hNX : Nums .i64 X1 (some ⟨w0.heap.size, 0, none⟩) 1 1 [x] := by rw [← hX1b]; exact nums_one2 w0.drew HWX.out
                obtain ⟨B1, e1, X2, sun1, s1, g1, _⟩ := (RowI.nil hEX).app _ _ _ _ (HR1.out _ hEX) (by omega) 22
                rw [Nat.zero_add, List.nil_append] at s1
                rw [Nat.zero_add] at sun1
                have hN2 : Nums .i64 X2 (some ⟨w0.heap.size, 0, none⟩) 1 1 [x] := nums_up hNX ((E.refl X1).grown g1 (fun k hk => by cases hk))
                obtain ⟨B2, e2, X3, sun2, s2, _⟩ := s1.app _ _ _ _ hN2 (by omega) 22
                obtain ⟨B3, e3, X4, sun3, s3, _⟩ := s2.app _ _ _ _ (HR2.out X3 s2.2) (by omega) 22
                have HA3 := Lib.hid r3
                have HB3 := Lib.hid s3
                refine wp_region_held_drew (S := (fun W => W.cell? ⟨b, o + i, none⟩ = some (.int .i64 x))) (by kernel_rfl) (HS.out _ hEd) (fun hHeld => ?_)
                (((refine wpAnyH_take (i := 0) (v := ?_) rfl (by kernel_rfl) (by kernel_rfl) (by kernel_rfl) (fun _ _ _ h => h) (Or.inl ⟨by kernel_rfl, ?_⟩) (by assumption) ?_); rotate_left 1; (focus (intro w hSw; (try dsimp only at hSw); go_simp; (try with_reducible rfl))); (try simp only [Act.put, sA, sB, sC])); ((refine wpAnyH_take (i := 1) (v := ?_) rfl (by kernel_rfl) (by kernel_rfl) (by kernel_rfl) (fun _ _ _ h => h) (Or.inl ⟨by kernel_rfl, ?_⟩) (by assumption) ?_); rotate_left 1; (focus (intro w hSw; (try dsimp only at hSw); go_simp; (try with_reducible rfl))); (try simp only [Act.put, sA, sB, sC])); ((refine wpAnyH_take (i := 2) (v := ?_) rfl (by kernel_rfl) (by kernel_rfl) (by kernel_rfl) (fun _ _ _ h => h) (Or.inl ⟨by kernel_rfl, ?_⟩) (by assumption) ?_); rotate_left 1; (focus (intro w hSw; (try dsimp only at hSw); go_simp; (try with_reducible rfl))); (try simp only [Act.put, sA, sB, sC])); ((refine wpAnyH_take (i := 3) (v := ?_) rfl (by kernel_rfl) (by kernel_rfl) (by kernel_rfl) (fun _ _ _ h => h) (Or.inl ⟨by kernel_rfl, ?_⟩) (by assumption) ?_); rotate_left 1; (focus (intro w hSw; (try dsimp only at hSw); go_simp; (try with_reducible rfl))); (try simp only [Act.put, sA, sB, sC])); ((refine wpAnyH_take (i := 5) (v := ?_) rfl (by kernel_rfl) (by kernel_rfl) (by kernel_rfl) (fun _ _ _ h => h) (Or.inl ⟨by kernel_rfl, ?_⟩) (by assumption) ?_); rotate_left 1; (focus (intro w hSw; (try dsimp only at hSw); go_simp; (try with_reducible rfl))); (try simp only [Act.put, sA, sB, sC])); ((refine wpAnyH_take (i := 6) (v := ?_) rfl (by kernel_rfl) (by kernel_rfl) (by kernel_rfl) (fun _ _ _ h => h) (Or.inl ⟨by kernel_rfl, ?_⟩) (by assumption) ?_); rotate_left 1; (focus (intro w hSw; (try dsimp only at hSw); go_simp; (try with_reducible rfl))); (try simp only [Act.put, sA, sB, sC])); ((refine wpAnyH_take (i := 7) (v := ?_) rfl (by kernel_rfl) (by kernel_rfl) (by kernel_rfl) (fun _ _ _ h => h) (Or.inl ⟨by kernel_rfl, ?_⟩) (by assumption) ?_); rotate_left 1; (focus (intro w hSw; (try dsimp only at hSw); go_simp; (try with_reducible rfl))); (try simp only [Act.put, sA, sB, sC])); ((refine wpAnyH_take (i := 8) (v := ?_) rfl (by kernel_rfl) (by kernel_rfl) (by kernel_rfl) (fun _ _ _ h => h) (Or.inl ⟨by kernel_rfl, ?_⟩) (by assumption) ?_); rotate_left 1; (focus (intro w hSw; (try dsimp only at hSw); go_simp; (try with_reducible rfl))); (try simp only [Act.put, sA, sB, sC])); ((refine wpAnyH_take (i := 11) (v := ?_) rfl (by kernel_rfl) (by kernel_rfl) (by kernel_rfl) (fun _ _ _ h => h) (Or.inl ⟨by kernel_rfl, ?_⟩) (by assumption) ?_); rotate_left 1; (focus (intro w hSw; (try dsimp only at hSw); go_simp; (try with_reducible rfl))); (try simp only [Act.put, sA, sB, sC])); ((refine wpAnyH_take (i := 12) (v := ?_) rfl (by kernel_rfl) (by kernel_rfl) (by kernel_rfl) (fun _ _ _ h => h) (Or.inl ⟨by kernel_rfl, ?_⟩) (by assumption) ?_); rotate_left 1; (focus (intro w hSw; (try dsimp only at hSw); go_simp; (try with_reducible rfl))); (try simp only [Act.put, sA, sB, sC])); ((refine wpAnyH_take (i := 13) (v := ?_) rfl (by kernel_rfl) (by kernel_rfl) (by kernel_rfl) (fun _ _ _ h => h) (Or.inl ⟨by kernel_rfl, ?_⟩) (by assumption) ?_); rotate_left 1; (focus (intro w hSw; (try dsimp only at hSw); go_simp; (try with_reducible rfl))); (try simp only [Act.put, sA, sB, sC])))
                simp only [List.getElem_toArray, List.getElem_cons_succ, List.getElem_cons_zero, Act.put, sA, sB, sC]
                refine wpAnyH_ready (rs := [4, 9]) (by kernel_rfl) (by simp) ?_
                refine AllReadyH.cons rfl (fun K hK => ?_) (AllReadyH.cons rfl (fun K hK => ?_) AllReadyH.nil)
                · refine step_app_runQ (by rfl) _ _ (by rfl) (by rfl) (by rfl) run1 ?_
                  refine hK _ _ (HS.out _ r1.2) (fun hh => ?_)
                  clear hK K hHeld
                  have hHeld := hh
                  clear hh
                  (try simp only [List.getElem_toArray, List.getElem_cons_succ, List.getElem_cons_zero, Act.put, sA, sB, sC])
                  (((refine wpAnyH_ready (rs := [9]) (by kernel_rfl) (by simp) ?_); (refine AllReadyH.cons rfl (fun K hK => ?_) AllReadyH.nil); (rw [if_pos (by kernel_rfl)]); go_simp))
                  (try rw [hV2])
                  refine hK _ _ (HS.out _ (r1.e_ hE12).2) (fun hh => ?_)
                  clear hK K hHeld
                  have hHeld := hh
                  clear hh
                  (try simp only [List.getElem_toArray, List.getElem_cons_succ, List.getElem_cons_zero, Act.put, sA, sB, sC])
                  refine wpAnyH_ready (rs := [10]) (by kernel_rfl) (by simp) ?_
                  refine AllReadyH.cons rfl (fun K hK => ?_) AllReadyH.nil
                  refine step_app_runQ (by rfl) _ _ (by rfl) (by rfl) (by rfl) run2 ?_
                  refine hK _ _ (HS.out _ r2.2) (fun hh => ?_)
                  clear hK K hHeld
                  have hHeld := hh
                  clear hh
                  (try simp only [List.getElem_toArray, List.getElem_cons_succ, List.getElem_cons_zero, Act.put, sA, sB, sC])
                  refine wpAnyH_ready (rs := [14]) (by kernel_rfl) (by simp) ?_
                  refine AllReadyH.cons rfl (fun K hK => ?_) AllReadyH.nil
                  refine step_app_runQ (by rfl) _ _ (by rfl) (by rfl) (by rfl) run3 ?_
                  refine hK _ _ (HS.out _ r3.2) (fun hh => ?_)
                  clear hK K hHeld
                  have hHeld := hh
                  clear hh
                  (try simp only [List.getElem_toArray, List.getElem_cons_succ, List.getElem_cons_zero, Act.put, sA, sB, sC])
                  (((refine wpAnyH_take (i := 15) (v := ?_) rfl (by kernel_rfl) (by kernel_rfl) (by kernel_rfl) (fun _ _ _ h => h) (Or.inl ⟨by kernel_rfl, ?_⟩) (by assumption) ?_); rotate_left 1; (focus (intro w hSw; (try dsimp only at hSw); go_simp; (try with_reducible rfl))); (try simp only [Act.put, sA, sB, sC])))
                  refine wpAnyH_done (by kernel_rfl) ?_ _
                  go_simp
                  clear hHeld
                  go_wp2_with fail
                  go_roundw
                  case rel => exact ⟨i + 1, _, _, _, _, by omega, by go_num, rfl, (HA3.out.1.rebase (HEI.out.trans hE0).le).cast HR.out.symm, (HEI.out.trans hE0).trans HA3.out.2, rfl⟩
                  case measure => simp [intOf]; omega
                · rw [if_pos (by kernel_rfl)]
                  go_simp
                  (try rw [hX1])
                  (try rw [hX1b])
                  refine hK _ _ (HS.out _ hEX) (fun hh => ?_)
                  clear hK K hHeld
                  have hHeld := hh
                  clear hh
                  (try simp only [List.getElem_toArray, List.getElem_cons_succ, List.getElem_cons_zero, Act.put, sA, sB, sC])
                  refine wpAnyH_ready (rs := [4]) (by kernel_rfl) (by simp) ?_
                  refine AllReadyH.cons rfl (fun K hK => ?_) AllReadyH.nil
                  refine step_app_runQ (by rfl) _ _ (by rfl) (by rfl) (by rfl) sun1 ?_
                  refine hK _ _ (HS.out _ s1.2) (fun hh => ?_)
                  clear hK K hHeld
                  have hHeld := hh
                  clear hh
                  (try simp only [List.getElem_toArray, List.getElem_cons_succ, List.getElem_cons_zero, Act.put, sA, sB, sC])
                  refine wpAnyH_ready (rs := [10]) (by kernel_rfl) (by simp) ?_
                  refine AllReadyH.cons rfl (fun K hK => ?_) AllReadyH.nil
                  refine step_app_runQ (by rfl) _ _ (by rfl) (by rfl) (by rfl) sun2 ?_
                  refine hK _ _ (HS.out _ s2.2) (fun hh => ?_)
                  clear hK K hHeld
                  have hHeld := hh
                  clear hh
                  (try simp only [List.getElem_toArray, List.getElem_cons_succ, List.getElem_cons_zero, Act.put, sA, sB, sC])
                  refine wpAnyH_ready (rs := [14]) (by kernel_rfl) (by simp) ?_
                  refine AllReadyH.cons rfl (fun K hK => ?_) AllReadyH.nil
                  refine step_app_runQ (by rfl) _ _ (by rfl) (by rfl) (by rfl) sun3 ?_
                  refine hK _ _ (HS.out _ s3.2) (fun hh => ?_)
                  clear hK K hHeld
                  have hHeld := hh
                  clear hh
                  (try simp only [List.getElem_toArray, List.getElem_cons_succ, List.getElem_cons_zero, Act.put, sA, sB, sC])
                  (((refine wpAnyH_take (i := 15) (v := ?_) rfl (by kernel_rfl) (by kernel_rfl) (by kernel_rfl) (fun _ _ _ h => h) (Or.inl ⟨by kernel_rfl, ?_⟩) (by assumption) ?_); rotate_left 1; (focus (intro w hSw; (try dsimp only at hSw); go_simp; (try with_reducible rfl))); (try simp only [Act.put, sA, sB, sC])))
                  refine wpAnyH_done (by kernel_rfl) ?_ _
                  go_simp
                  clear hHeld
                  go_wp2_with fail
                  go_roundw
                  case rel => exact ⟨i + 1, _, _, _, _, by omega, by go_num, rfl, (HB3.out.1.rebase (HEI.out.trans hE0).le).cast HR.out.symm, (HEI.out.trans hE0).trans HB3.out.2, rfl⟩
                  case measure => simp [intOf]; omega
    · have hin : l.take i = l := List.take_of_length_le (by have := HA.out.len; omega)
      have HF := Lib.hid (show out = sortI l by rw [hout.out, hin])
      clear hin hout
      go_wp2_with fail
      go_ret
      exact RetOwn.mk_ HF.out.symm hO hE
end Go.Proofs.YtmeplpiamkaniaaGreat
