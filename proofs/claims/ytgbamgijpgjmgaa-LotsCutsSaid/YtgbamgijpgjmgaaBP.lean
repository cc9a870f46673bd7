/- Lemmas of the claim, joined: WV. No condition. -/
import Derived.Test.YtgbamgijpgjmgaaBM
import Derived.Test.YtgbamgijpgjmgaaBO
/- Slices of lots in plain words; lots written and read. -/
namespace Go.Proofs.Ytgbamgijpgjmgaa

theorem glue_take_len (l : List Lt) (k : Nat) (hl : ∀ x ∈ l, 1 ≤ x.2.2) : (glue ((U l).take k)).length ≤ l.length := by
  have h := (put_first (n := (k : Int)) (by omega) hl).1
  have e1 := putL_len (sel true (pcs l (firstK (k : Int) l))) []
  have e2 := sel_len' true (l := l) (ks := firstK (k : Int) l)
  rw [h] at e1
  simp at e1
  omega
theorem sliceS_yes {l : List Lt} {a n : Int} (hv : validB l = true) (h0 : 0 ≤ a) (h1 : 0 ≤ n) (h2 : a ≤ totL l) (h3 : n ≤ totL l - a) : sliceS l a n = (glue (((U l).drop a.toNat).take n.toNat), 0) := by
  rw [sliceS, if_neg (by rw [hv]; rintro (h | h | h) <;> first | omega | cases h), if_neg (by omega)]
theorem sub_valid {l : List Lt} (hv : validB l = true) (i k : Nat) : validB (glue (((U l).drop i).take k)) = true ∧ (glue (((U l).drop i).take k)).length ≤ l.length := by
  obtain ⟨v1, v2⟩ := validB_iff.1 hv
  have h1 := glue_drop_len l i (fun x hx => (possB_iff.1 (v2 x hx)).2.2.2.1)
  have h2 := glue_take_len (glue ((U l).drop i)) k (fun x hx => (glue_glued _).mem x hx)
  rw [U_glue] at h2
  refine ⟨validB_iff.2 ⟨by omega, glue_poss' fun u hu => U_range' v2 u (List.mem_of_mem_drop (List.mem_of_mem_take hu))⟩, by omega⟩
/-- the bytes of lots, each written as three numbers -/
def encLs (l : List Lt) : List Int := l.flatMap fun y => encI [y.1, y.2.1, y.2.2]
theorem encLs_cons (x : Lt) (l : List Lt) : encLs (x :: l) = encI [x.1, x.2.1, x.2.2] ++ encLs l := rfl
theorem encLs_take {l : List Lt} {i : Nat} {x : Lt} (h : l[i]? = some x) : encLs (l.take i) ++ encI [x.1, x.2.1, x.2.2] = encLs (l.take (i + 1)) := by
  rw [List.take_add_one, h]
  simp [encLs]
theorem encLs_drop {l : List Lt} {i : Nat} {x : Lt} (h : l[i]? = some x) : encLs (l.drop i) = encI [x.1, x.2.1, x.2.2] ++ encLs (l.drop (i + 1)) := by
  obtain ⟨hk, rfl⟩ := List.getElem?_eq_some_iff.1 h
  rw [List.drop_eq_getElem_cons hk, encLs_cons]
theorem enc3_len {x : Lt} (h1 : (Go.Lit.int .i64 x.1).wf = true) (h2 : (Go.Lit.int .i64 x.2.1).wf = true) (h3 : (Go.Lit.int .i64 x.2.2).wf = true) : (encI [x.1, x.2.1, x.2.2]).length ≤ 40 := by
  have h := intsB_len [x.1, x.2.1, x.2.2] (by intro y hy; simp at hy; rcases hy with rfl | rfl | rfl <;> assumption)
  have e : (uv 3).length ≤ 10 := uv_len10 (by omega)
  unfold encI
  rw [List.length_append]
  have : (uv ([x.1, x.2.1, x.2.2] : List Int).length).length ≤ 10 := e
  simp only [List.length_cons, List.length_nil] at h this ⊢
  omega
theorem encLs_len {l : List Lt} (hl : ∀ x ∈ l, (Go.Lit.int .i64 x.1).wf = true ∧ (Go.Lit.int .i64 x.2.1).wf = true ∧ (Go.Lit.int .i64 x.2.2).wf = true) : (encLs l).length ≤ 40 * l.length := by
  induction l with
  | nil => simp [encLs]
  | cons x l ih =>
    have h := hl x List.mem_cons_self
    have h1 := enc3_len h.1 h.2.1 h.2.2
    have h2 := ih fun y hy => hl y (List.mem_cons_of_mem _ hy)
    rw [encLs_cons, List.length_append, List.length_cons]
    omega
end Go.Proofs.Ytgbamgijpgjmgaa
