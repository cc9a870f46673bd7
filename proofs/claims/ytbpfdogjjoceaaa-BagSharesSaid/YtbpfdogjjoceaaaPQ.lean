/- Plain laws of the functions on bags. -/
import Derived.Test.YtbpfdogjjoceaaaE
namespace Go.Proofs.Ytbpfdogjjoceaaa

abbrev LIM : Int := 1099511627776

theorem fitB_iff {a b : List Int} : fitB a b = true ↔ a.length = b.length ∧ isBagB a = true ∧ isBagB b = true := by simp [fitB]
theorem isBag_iff {l : List Int} : isBagB l = true ↔ l.length ≤ 64 ∧ ∀ x ∈ l, 0 ≤ x ∧ x ≤ 1099511627776 := by
  simp only [isBagB, Bool.and_eq_true, List.all_eq_true, decide_eq_true_eq]
  exact ⟨fun h => ⟨h.1, fun x hx => okU_iff.1 (h.2 x hx)⟩, fun h => ⟨h.1, fun x hx => okU_iff.2 (h.2 x hx)⟩⟩

/-- two lists, number by number -/
def both (p : Int → Int → Prop) (a b : List Int) : Prop := ∀ (i : Nat) (x y : Int), a[i]? = some x → b[i]? = some y → p x y
theorem both_cons {p : Int → Int → Prop} {x y : Int} {a b : List Int} : both p (x :: a) (y :: b) ↔ p x y ∧ both p a b := by
  constructor
  · exact fun h => ⟨h 0 x y rfl rfl, fun i u v hu hv => h (i + 1) u v (by simpa using hu) (by simpa using hv)⟩
  · rintro ⟨h1, h2⟩ i u v hu hv
    cases i with
    | zero => simp at hu hv; subst hu hv; exact h1
    | succ i => exact h2 i u v (by simpa using hu) (by simpa using hv)
theorem both_nil {p : Int → Int → Prop} {b : List Int} : both p [] b := by intro i x y h; simp at h

/-- no error anywhere: each pair goes over -/
theorem combF_ok {f : Int → Int → Int × Int} {g : Int → Int → Int} {ok : Int → Int → Prop} (hf : ∀ x y, ok x y → f x y = (g x y, 0)) : ∀ {a b : List Int}, a.length = b.length → both ok a b → combF f a b = (List.zipWith g a b, 0)
  | [], [], _, _ => rfl
  | [], _ :: _, h, _ => by simp at h
  | _ :: _, [], h, _ => by simp at h
  | x :: a, y :: b, h, hb => by
    obtain ⟨h1, h2⟩ := both_cons.1 hb
    have ih := combF_ok hf (a := a) (b := b) (by simpa using h) h2
    simp [combF, hf x y h1, ih]
/-- one error somewhere, and there is but one kind -/
theorem combF_bad {f : Int → Int → Int × Int} {g : Int → Int → Int} {ok : Int → Int → Prop} {e : Int} (he : e ≠ 0) (hf : ∀ x y, ok x y → f x y = (g x y, 0)) (hn : ∀ x y, ¬ ok x y → f x y = (0, e)) : ∀ {a b : List Int}, a.length = b.length → ¬ both ok a b → combF f a b = ([], e)
  | [], [], _, hb => absurd both_nil hb
  | [], _ :: _, h, _ => by simp at h
  | _ :: _, [], h, _ => by simp at h
  | x :: a, y :: b, h, hb => by
    by_cases h1 : ok x y
    · have h2 : ¬ both ok a b := fun h2 => hb (both_cons.2 ⟨h1, h2⟩)
      have ih := combF_bad he hf hn (a := a) (b := b) (by simpa using h) h2
      simp [combF, hf x y h1, ih, he]
    · simp [combF, hn x y h1, he]

def addOk (x y : Int) : Prop := x + y ≤ 1099511627776
def subOk (x y : Int) : Prop := y ≤ x
def tmOk (k : Int) (_ y : Int) : Prop := y * k ≤ 1099511627776
theorem addS_ok {a b : List Int} (h : fitB a b = true) (hb : both addOk a b) : addS a b = (List.zipWith (· + ·) a b, 0) := by
  rw [addS, h]
  exact combF_ok (ok := addOk) (fun x y hxy => by unfold addOk at hxy; simp [show ¬ 1099511627776 < x + y by omega]) (fit_len h) hb
theorem addS_bad {a b : List Int} (h : fitB a b = true) (hb : ¬ both addOk a b) : addS a b = ([], 4) := by
  rw [addS, h]
  exact combF_bad (g := (· + ·)) (ok := addOk) (by decide) (fun x y hxy => by unfold addOk at hxy; simp [show ¬ 1099511627776 < x + y by omega]) (fun x y hxy => by unfold addOk at hxy; simp [show 1099511627776 < x + y by omega]) (fit_len h) hb
theorem subS_ok {a b : List Int} (h : fitB a b = true) (hb : both subOk a b) : subS a b = (List.zipWith (· - ·) a b, 0) := by
  rw [subS, h]
  exact combF_ok (ok := subOk) (fun x y hxy => by unfold subOk at hxy; simp [show ¬ x < y by omega]) (fit_len h) hb
theorem subS_bad {a b : List Int} (h : fitB a b = true) (hb : ¬ both subOk a b) : subS a b = ([], 10) := by
  rw [subS, h]
  exact combF_bad (g := (· - ·)) (ok := subOk) (by decide) (fun x y hxy => by unfold subOk at hxy; simp [show ¬ x < y by omega]) (fun x y hxy => by unfold subOk at hxy; simp [show x < y by omega]) (fit_len h) hb
theorem timesS_ok {l : List Int} {k : Int} (h : isBagB l = true ∧ 0 ≤ k ∧ k ≤ 1048576) (hb : both (tmOk k) l l) : timesS l k = (l.map (· * k), 0) := by
  rw [timesS, if_pos h, combF_ok (g := fun _ y => y * k) (ok := tmOk k) (fun x y hxy => by unfold tmOk at hxy; simp [tm1, show ¬ 1099511627776 < y * k by omega]) rfl hb]
  congr 1
  induction l with
  | nil => rfl
  | cons x l ih =>
    simp only [List.zipWith_cons_cons, List.map_cons]
    congr 1
    clear hb h ih
    induction l with
    | nil => rfl
    | cons x l _ => simp
theorem timesS_bad {l : List Int} {k : Int} (h : isBagB l = true ∧ 0 ≤ k ∧ k ≤ 1048576) (hb : ¬ both (tmOk k) l l) : timesS l k = ([], 4) := by
  rw [timesS, if_pos h]
  exact combF_bad (g := fun _ y => y * k) (ok := tmOk k) (by decide) (fun x y hxy => by unfold tmOk at hxy; simp [tm1, show ¬ 1099511627776 < y * k by omega]) (fun x y hxy => by unfold tmOk at hxy; simp [tm1, show 1099511627776 < y * k by omega]) rfl hb
theorem joinS_eq {a b : List Int} (h : fitB a b = true) : joinS a b = List.zipWith max a b := by
  rw [joinS, h]
  show (combF _ a b).1 = _
  rw [combF_ok (g := fun x y => max x y) (ok := fun _ _ => True) (fun x y _ => rfl) (fit_len h) (fun _ _ _ _ _ => trivial)]
theorem meetS_eq {a b : List Int} (h : fitB a b = true) : meetS a b = List.zipWith min a b := by
  rw [meetS, h]
  show (combF _ a b).1 = _
  rw [combF_ok (g := fun x y => min x y) (ok := fun _ _ => True) (fun x y _ => rfl) (fit_len h) (fun _ _ _ _ _ => trivial)]

theorem zip_len {g : Int → Int → Int} {a b : List Int} (h : a.length = b.length) : (List.zipWith g a b).length = b.length := by simp [h]
theorem zip_get {g : Int → Int → Int} {a b : List Int} {i : Nat} {z : Int} (h : (List.zipWith g a b)[i]? = some z) : ∃ x y, a[i]? = some x ∧ b[i]? = some y ∧ z = g x y := by
  rw [List.getElem?_zipWith] at h
  cases ha : a[i]? <;> cases hb : b[i]? <;> simp [ha, hb] at h
  exact ⟨_, _, rfl, rfl, h.symm⟩
theorem isBag_zip {g : Int → Int → Int} {a b : List Int} (h : fitB a b = true) (hg : both (fun x y => 0 ≤ g x y ∧ g x y ≤ 1099511627776) a b) : isBagB (List.zipWith g a b) = true := by
  rw [isBag_iff]
  refine ⟨by rw [zip_len (fit_len h)]; exact isBag_len (fit_b h), fun z hz => ?_⟩
  obtain ⟨i, hi⟩ := List.mem_iff_getElem?.1 hz
  obtain ⟨x, y, hx, hy, rfl⟩ := zip_get hi
  exact hg i x y hx hy
theorem bounds {a b : List Int} (h : fitB a b = true) : both (fun x y => 0 ≤ x ∧ x ≤ 1099511627776 ∧ 0 ≤ y ∧ y ≤ 1099511627776) a b := fun i x y hx hy => by
  have h1 := isBag_get (fit_a h) hx
  have h2 := isBag_get (fit_b h) hy
  exact ⟨h1.1, h1.2, h2.1, h2.2⟩
theorem both_mono {p q : Int → Int → Prop} {a b : List Int} (h : both p a b) (hpq : ∀ x y, p x y → q x y) : both q a b := fun i x y hx hy => hpq x y (h i x y hx hy)
/-- two lists made of the same three lists are equal if they agree number by number -/
theorem get_len {a : List Int} {i n : Nat} (h : a.length = n) (hi : i < n) : ∃ x, a[i]? = some x := ⟨_, List.getElem?_eq_getElem (by omega)⟩
theorem ext3 {l m : List Int} {n : Nat} (h1 : l.length = n) (h2 : m.length = n) (h : ∀ (i : Nat) (x y : Int), l[i]? = some x → m[i]? = some y → x = y) : l = m := by
  apply List.ext_getElem?
  intro i
  rcases Nat.lt_or_ge i n with hi | hi
  · obtain ⟨x, hx⟩ := get_len h1 hi
    obtain ⟨y, hy⟩ := get_len h2 hi
    rw [hx, hy, h i x y hx hy]
  · rw [List.getElem?_eq_none (by omega), List.getElem?_eq_none (by omega)]

theorem covers_iff {a b : List Int} (h : fitB a b = true) : (subS a b).2 = 0 ↔ both subOk a b := by
  constructor
  · intro h0
    refine Classical.byContradiction fun hb => ?_
    rw [subS_bad h hb] at h0
    simp at h0
  · intro hb; rw [subS_ok h hb]
end Go.Proofs.Ytbpfdogjjoceaaa
