/- Lemmas of the claim, joined: GT GU. No condition. -/
import Derived.Test.YtmeplpiamkaniaaNB
import Derived.Test.YtmeplpiamkaniaaNC
import Derived.Test.YtmeplpiamkaniaaNE
namespace Go.Proofs.Ytmeplpiamkaniaa
set_option linter.unusedVariables false
set_option linter.unusedSimpArgs false
structure LdSt (fs : List Fl) (i : Int) (out rest : List Int) : Prop where
  nd : out.Nodup
  snd : ∀ j ∈ out, Lead1 fs i j
  gr : ∀ j ∈ rest, j = i ∨ j ∈ out
  clo : ∀ a, (a = i ∨ a ∈ out) → a ∉ rest → ∀ f, getF fs a = some f → ∀ j ∈ refsF f, j ∈ out
structure LdIn (fs : List Fl) (i a : Int) (f : Fl) (m : Nat) (out rest : List Int) : Prop where
  nd : out.Nodup
  snd : ∀ j ∈ out, Lead1 fs i j
  gr : ∀ j ∈ rest, j = i ∨ j ∈ out
  clo : ∀ b, (b = i ∨ b ∈ out) → b ∉ rest → b ≠ a → ∀ f, getF fs b = some f → ∀ j ∈ refsF f, j ∈ out
  part : ∀ j ∈ (refsF f).take m, j ∈ out
  at_ : a = i ∨ a ∈ out
  get : getF fs a = some f
section
variable {fs : List Fl} {i a : Int} {f : Fl} {m : Nat} {out rest : List Int}
theorem LdSt.start (fs : List Fl) (i : Int) : LdSt fs i [] [i] :=
  ⟨List.nodup_nil, fun _ h => (by cases h), fun j hj => .inl (by simpa using hj), fun a ha hn => by
    rcases ha with rfl | ha
    · exact absurd List.mem_cons_self hn
    · cases ha⟩
theorem LdSt.into (h : LdSt fs i out (a :: rest)) (hf : getF fs a = some f) : LdIn fs i a f 0 out rest :=
  ⟨h.nd, h.snd, fun j hj => h.gr j (List.mem_cons_of_mem _ hj), fun b hb hn hne => h.clo b hb (fun hm => by
    rcases List.mem_cons.1 hm with e | e
    · exact hne e
    · exact hn e), fun j hj => by simp at hj, h.gr a List.mem_cons_self, hf⟩
theorem LdIn.old (h : LdIn fs i a f m out rest) {j : Int} (hj : (refsF f)[m]? = some j) (hm : j ∈ out) : LdIn fs i a f (m + 1) out rest :=
  ⟨h.nd, h.snd, h.gr, h.clo, fun k hk => by
    rw [List.take_add_one, hj] at hk
    rcases List.mem_append.1 hk with hk | hk
    · exact h.part k hk
    · simp at hk; subst hk; exact hm, h.at_, h.get⟩
theorem LdIn.new (h : LdIn fs i a f m out rest) {j : Int} (hj : (refsF f)[m]? = some j) (hm : j ∉ out) : LdIn fs i a f (m + 1) (out ++ [j]) (rest ++ [j]) := by
  have hr : j ∈ refsF f := List.mem_of_getElem? hj
  refine ⟨?_, fun k hk => ?_, fun k hk => ?_, fun b hb hn hne g hg k hk => ?_, fun k hk => ?_, h.at_.imp id (List.mem_append_left _), h.get⟩
  · rw [List.nodup_append]
    exact ⟨h.nd, by simp, fun x hx y hy e => by simp at hy; subst hy; subst e; exact hm hx⟩
  · rcases List.mem_append.1 hk with hk | hk
    · exact h.snd k hk
    · simp at hk
      subst hk
      rcases h.at_ with e | e
      · have hg := h.get
        rw [e] at hg
        exact .one hg hr
      · exact .more (h.snd a e) h.get hr
  · rcases List.mem_append.1 hk with hk | hk
    · exact (h.gr k hk).imp id (List.mem_append_left _)
    · simp at hk; subst hk; exact .inr (by simp)
  · refine List.mem_append_left _ (h.clo b ?_ (fun hm => hn (List.mem_append_left _ hm)) hne g hg k hk)
    rcases hb with hb | hb
    · exact .inl hb
    · rcases List.mem_append.1 hb with hb | hb
      · exact .inr hb
      · exact absurd (List.mem_append_right _ hb) hn
  · rw [List.take_add_one, hj] at hk
    rcases List.mem_append.1 hk with hk | hk
    · exact List.mem_append_left _ (h.part k hk)
    · simp at hk; subst hk; simp
theorem LdIn.out_ (h : LdIn fs i a f (refsF f).length out rest) : LdSt fs i out rest :=
  ⟨h.nd, h.snd, h.gr, fun b hb hn g hg k hk => by
    by_cases e : b = a
    · subst e
      rw [h.get] at hg
      injection hg with hg
      subst hg
      exact h.part k (by rw [List.take_length]; exact hk)
    · exact h.clo b hb hn e g hg k hk⟩
theorem LdSt.done (h : LdSt fs i out []) : ∀ j, j ∈ out ↔ Lead1 fs i j :=
  fun j => ⟨h.snd j, lead_closed (fun a ha f hf k hk => h.clo a ha (by simp) f hf k hk) j⟩
theorem Lead1.get (hr : ∀ f ∈ fs, ∀ j ∈ refsF f, ∃ q, getF fs j = some q) {j : Int} (h : Lead1 fs i j) : ∃ q, getF fs j = some q := by
  cases h with
  | one h1 h2 => exact hr _ (getF_some h1).1 _ h2
  | more _ h1 h2 => exact hr _ (getF_some h1).1 _ h2
theorem lead_len {l : List Int} (hn : l.Nodup) (h : ∀ j ∈ l, ∃ q, getF fs j = some q) : l.length ≤ fs.length := by
  have := nodup_le (a := l) (b := fs.map Fl.id) hn fun j hj => by
    obtain ⟨q, hq⟩ := h j hj
    exact List.mem_map.2 ⟨q, (getF_some hq).1, (getF_some hq).2⟩
  rwa [List.length_map] at this
theorem LdSt.len (h : LdSt fs i out rest) (hr : ∀ f ∈ fs, ∀ j ∈ refsF f, ∃ q, getF fs j = some q) : out.length ≤ fs.length := lead_len h.nd fun j hj => (h.snd j hj).get hr
theorem LdIn.len (h : LdIn fs i a f m out rest) (hr : ∀ f ∈ fs, ∀ j ∈ refsF f, ∃ q, getF fs j = some q) : out.length ≤ fs.length := lead_len h.nd fun j hj => (h.snd j hj).get hr
end
def insI (x : Int) (l : List Int) : List Int :=
  if l.contains x then l else (l.filter fun y => decide (y < x)) ++ [x] ++ l.filter fun y => decide (x < y)
def sortI (l : List Int) : List Int := l.foldl (fun o x => insI x o) []
end Go.Proofs.Ytmeplpiamkaniaa
namespace Go.Proofs.Ytmeplpiamkaniaa
set_option linter.unusedVariables false
set_option linter.unusedSimpArgs false
open Go.RowKit
def RowI (W V : World) (A : Option Addr) (n c : Nat) (l : List Int) : Prop := Own .i64 3 V W.heap.size A n c l ∧ E W V
theorem RowI.nil {W V : World} (h : E W V) : RowI W V none 0 0 [] := ⟨Own.nil _ _ _ _, h⟩
theorem RowI.e_ {W V V' : World} {A : Option Addr} {n c : Nat} {l : List Int} (h : RowI W V A n c l) (hE : E V V') : RowI W V' A n c l := ⟨h.1.e hE, h.2.trans hE⟩
theorem RowI.app {W V : World} {A : Option Addr} {n c : Nat} {l : List Int} (h : RowI W V A n c l) (A2 : Option Addr) (m c2 : Nat) (l2 : List Int) (hr : Nums .i64 V A2 m c2 l2) (hn : n + m ≤ 1099511627776) (ty : TypeId) :
    ∃ A' c' V', (Builtin.append_ #[22, 22] ty #[.slice A n c, .slice A2 m c2]).run Try.prog V = .ok (.slice A' (n + m) c') V' ∧ RowI W V' A' (n + m) c' (l ++ l2) ∧ V.grownBy V' (ob A) ∧ (ob A' = ob A ∨ ob A' = some V.heap.size) := by
  obtain ⟨A', c', V', hrun, hO, hG, hor⟩ := run_appN intTk V ty W.heap.size A n c l h.1 A2 m c2 l2 hr hn h.2.le
  rw [ob_eq] at hG
  rw [ob_eq, ob_eq] at hor
  exact ⟨A', c', V', hrun, ⟨hO, h.2.grown hG (fun k hk => (h.1.ltN k hk).1)⟩, hG, hor⟩
theorem nums_one2 (W : World) {x : Int} (hx : (Lit.int .i64 x).wf = true) : Nums .i64 (W.alloc (.cells #[.int .i64 x] 3)) (some ⟨W.heap.size, 0, none⟩) 1 1 [x] :=
  ⟨rfl, Nat.le_refl _, by unfold maxLen; omega, by intro y hy; rw [List.mem_singleton] at hy; subst hy; exact hx, fun _ => ⟨W.heap.size, 0, rfl, by simp, fun j hj => by
    have : j = 0 := by simpa using hj
    subst this; exact cell_new _ _ _⟩⟩
end Go.Proofs.Ytmeplpiamkaniaa
