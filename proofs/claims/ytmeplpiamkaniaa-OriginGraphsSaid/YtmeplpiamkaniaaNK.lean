/- Lemmas of the claim, joined: GDp FL FLf GFa GFl GQu GLd GLk GCk. No condition. -/
import Derived.Test.YtmeplpiamkaniaaNR
import Derived.Test.YtmeplpiamkaniaaNB
import Derived.Test.YtmeplpiamkaniaaNA
import Derived.Deep.Slices
import Derived.Deep.Fields
import Derived.ChangeSame
import Derived.ProofKit
import Derived.ChangeSlices
import Derived.Test.YtmeplpiamkaniaaNE
import Derived.Test.YtmeplpiamkaniaaNF
import Derived.Test.YtmeplpiamkaniaaNC
import Derived.ArgAppend
namespace Go.Proofs.Ytmeplpiamkaniaa
set_option linter.unusedVariables false
set_option linter.unusedSimpArgs false
def add1 (o : List Int) (j : Int) : List Int := if o.contains j then o else o ++ [j]
def addAll (o l : List Int) : List Int := l.foldl add1 o
theorem add1_pre (o : List Int) (j : Int) : ∃ r, add1 o j = o ++ r := by
  unfold add1
  split
  · exact ⟨[], by simp⟩
  · exact ⟨[j], rfl⟩
theorem addAll_pre (l : List Int) : ∀ o : List Int, ∃ r, addAll o l = o ++ r := by
  induction l with
  | nil => intro o; exact ⟨[], by simp [addAll]⟩
  | cons j l ih =>
    intro o
    obtain ⟨r1, h1⟩ := add1_pre o j
    obtain ⟨r2, h2⟩ := ih (add1 o j)
    refine ⟨r1 ++ r2, ?_⟩
    show addAll (add1 o j) l = _
    rw [h2, h1, List.append_assoc]
theorem add1_mem {o : List Int} {j x : Int} : x ∈ add1 o j ↔ x ∈ o ∨ x = j := by
  unfold add1
  by_cases h : o.contains j = true
  · rw [if_pos h]
    refine ⟨.inl, fun hx => ?_⟩
    rcases hx with hx | rfl
    · exact hx
    · simpa using h
  · rw [if_neg h, List.mem_append, List.mem_singleton]
theorem addAll_mem {l : List Int} : ∀ {o : List Int} {x : Int}, x ∈ addAll o l ↔ x ∈ o ∨ x ∈ l := by
  induction l with
  | nil => intro o x; simp [addAll]
  | cons j l ih =>
    intro o x
    show x ∈ addAll (add1 o j) l ↔ _
    rw [ih, add1_mem, List.mem_cons, or_assoc]
theorem add1_nd {o : List Int} (h : o.Nodup) (j : Int) : (add1 o j).Nodup := by
  unfold add1
  by_cases hj : o.contains j = true
  · rw [if_pos hj]; exact h
  · rw [if_neg hj, List.nodup_append]
    exact ⟨h, by simp, fun a ha b hb e => by
      rw [List.mem_singleton] at hb
      subst hb
      subst e
      exact hj (by simpa using ha)⟩
theorem addAll_nd {l : List Int} : ∀ {o : List Int}, o.Nodup → (addAll o l).Nodup := by
  induction l with
  | nil => intro o h; exact h
  | cons j l ih => intro o h; exact ih (add1_nd h j)
structure DvSt (fs : List Fl) (i : Int) (k : Nat) (ids : List Int) : Prop where
  nd : ids.Nodup
  hd : i ∈ ids
  snd : ∀ j ∈ ids, j = i ∨ Lead1 fs i j
  clo : ∀ (m : Nat) (a : Int) (f : Fl), m < k → ids[m]? = some a → getF fs a = some f → ∀ j ∈ refsF f, j ∈ ids
section
variable {fs : List Fl} {i : Int} {k : Nat} {ids : List Int}
theorem DvSt.start (fs : List Fl) (i : Int) : DvSt fs i 0 [i] := ⟨by simp, by simp, fun j hj => .inl (by simpa using hj), fun m a f hm => absurd hm (by omega)⟩
theorem DvSt.next (h : DvSt fs i k ids) {a : Int} {f : Fl} (ha : ids[k]? = some a) (hf : getF fs a = some f) : DvSt fs i (k + 1) (addAll ids (refsF f)) := by
  refine ⟨addAll_nd h.nd, addAll_mem.2 (.inl h.hd), fun j hj => ?_, fun m b g hm hb hg j hj => ?_⟩
  · rcases addAll_mem.1 hj with hj | hj
    · exact h.snd j hj
    · right
      rcases h.snd a (List.mem_of_getElem? ha) with e | e
      · subst e; exact .one hf hj
      · exact .more e hf hj
  · obtain ⟨r, hr⟩ := addAll_pre (refsF f) ids
    have hlt := (List.getElem?_eq_some_iff.1 ha).1
    have hb' : ids[m]? = some b := by rw [hr, List.getElem?_append_left (by omega)] at hb; exact hb
    rcases Nat.lt_or_ge m k with hmk | hmk
    · exact addAll_mem.2 (.inl (h.clo m b g hmk hb' hg j hj))
    · have : m = k := by omega
      subst this
      rw [ha] at hb'
      injection hb' with hb'
      subst hb'
      rw [hf] at hg
      injection hg with hg
      subst hg
      exact addAll_mem.2 (.inr hj)
theorem DvSt.done (h : DvSt fs i ids.length ids) : ∀ j, j ∈ ids ↔ (j = i ∨ Lead1 fs i j) := by
  intro j
  refine ⟨h.snd j, fun hj => ?_⟩
  rcases hj with rfl | hj
  · exact h.hd
  · refine lead_closed (fun a ha f hf k hk => ?_) j hj
    have ham : a ∈ ids := by
      rcases ha with rfl | ha
      · exact h.hd
      · exact ha
    obtain ⟨m, hm⟩ := List.getElem?_of_mem ham
    exact h.clo m a f (List.getElem?_eq_some_iff.1 hm).1 hm hf k hk
theorem DvSt.get (h : DvSt fs i k ids) (hr : ∀ f ∈ fs, ∀ j ∈ refsF f, ∃ q, getF fs j = some q) (hi : ∃ q, getF fs i = some q) {j : Int} (hj : j ∈ ids) : ∃ q, getF fs j = some q := by
  rcases h.snd j hj with rfl | hj
  · exact hi
  · exact hj.get hr
theorem DvSt.len (h : DvSt fs i k ids) (hr : ∀ f ∈ fs, ∀ j ∈ refsF f, ∃ q, getF fs j = some q) (hi : ∃ q, getF fs i = some q) : ids.length ≤ fs.length := lead_len h.nd fun j hj => h.get hr hi hj
theorem DerOf.len {ds : List Fl} (hi : Ids fs) (h : DerOf fs i ds) : ds.length ≤ fs.length := by
  have hnd : (ds.map Fl.id).Nodup := h.srt.imp fun hlt e => by omega
  have := lead_len (fs := fs) hnd fun j hj => by
    obtain ⟨f, hf, rfl⟩ := List.mem_map.1 hj
    exact ⟨f, hi.mem ((h.mem f).1 hf).1⟩
  rwa [List.length_map] at this
end
inductive VerE (d : List Fl) (x : Lt) (h : Int) : Int → Prop
  | bad {e : Int} : NewE d e → e ≠ 0 → VerE d x h e
  | none_ : GOk d → hasF d x = false → VerE d x h 7
  | less {ds : List Fl} : GOk d → hasF d x = true → DerOf d x.1 ds → ds.length < d.length → VerE d x h 1
  | sum {ds : List Fl} {k : Int → Int} : GOk d → hasF d x = true → DerOf d x.1 ds → ¬ ds.length < d.length → HashOf d k → k x.1 ≠ h → VerE d x h 19
  | ok {ds : List Fl} {k : Int → Int} : GOk d → hasF d x = true → DerOf d x.1 ds → ¬ ds.length < d.length → HashOf d k → k x.1 = h → VerE d x h 0
theorem VerE.inj {d : List Fl} {x : Lt} {h r r' : Int} (a : VerE d x h r) (b : VerE d x h r') : r = r' := by
  have key : ∀ {e : Int}, NewE d e → e ≠ 0 → GOk d → False := fun h1 h2 h3 => h2 (h1.inj (NewE.of_ok h3))
  have hash : ∀ {k k' : Int → Int}, GOk d → hasF d x = true → HashOf d k → HashOf d k' → k x.1 = k' x.1 := fun h1 h2 h3 h4 => by
    obtain ⟨_, f, hf, _⟩ := hasF_iff.1 h2
    exact HashOf.eq h1 h3 h4 _ f hf
  have len : ∀ {ds ds' : List Fl}, GOk d → DerOf d x.1 ds → DerOf d x.1 ds' → ds = ds' := fun h1 h2 h3 => DerOf.eq h1.ids h2 h3
  cases a with
  | bad a1 a2 =>
    cases b with
    | bad b1 b2 => exact a1.inj b1
    | none_ b1 => exact (key a1 a2 b1).elim
    | less b1 => exact (key a1 a2 b1).elim
    | sum b1 => exact (key a1 a2 b1).elim
    | ok b1 => exact (key a1 a2 b1).elim
  | none_ a1 a2 =>
    cases b with
    | bad b1 b2 => exact (key b1 b2 a1).elim
    | none_ b1 => rfl
    | less _ b2 => rw [a2] at b2; cases b2
    | sum _ b2 => rw [a2] at b2; cases b2
    | ok _ b2 => rw [a2] at b2; cases b2
  | less a1 a2 a3 a4 =>
    cases b with
    | bad b1 b2 => exact (key b1 b2 a1).elim
    | none_ _ b2 => rw [a2] at b2; cases b2
    | less => rfl
    | sum _ _ b3 b4 => rw [len a1 a3 b3] at a4; exact absurd a4 b4
    | ok _ _ b3 b4 => rw [len a1 a3 b3] at a4; exact absurd a4 b4
  | sum a1 a2 a3 a4 a5 a6 =>
    cases b with
    | bad b1 b2 => exact (key b1 b2 a1).elim
    | none_ _ b2 => rw [a2] at b2; cases b2
    | less _ _ b3 b4 => rw [← len a1 a3 b3] at b4; exact absurd b4 a4
    | sum => rfl
    | ok _ _ _ _ b5 b6 => rw [hash a1 a2 a5 b5] at a6; exact absurd b6 a6
  | ok a1 a2 a3 a4 a5 a6 =>
    cases b with
    | bad b1 b2 => exact (key b1 b2 a1).elim
    | none_ _ b2 => rw [a2] at b2; cases b2
    | less _ _ b3 b4 => rw [← len a1 a3 b3] at b4; exact absurd b4 a4
    | sum _ _ _ _ b5 b6 => rw [hash a1 a2 a5 b5] at a6; exact absurd a6 b6
    | ok => rfl
theorem NewE.no_cyc {fs : List Fl} (h1 : chk1 [] fs = 0) (h2 : chk2 fs = 0) (h3 : ∀ f ∈ fs, ¬ Lead1 fs f.id f.id) : NewE fs 0 := by
  refine .ok h1 h2 (ranked_of (chk1_facts h1).2 (fun f hf => ?_) h3)
  rw [chk2, firstE_zero] at h2
  exact h2 _ (List.mem_map.2 ⟨f, hf, rfl⟩)
theorem NewE.cyc_ {fs : List Fl} (h1 : chk1 [] fs = 0) (h2 : chk2 fs = 0) {i : Int} (h3 : Lead1 fs i i) : NewE fs 18 := .cyc h1 h2 fun hr => not_cyc hr i h3
end Go.Proofs.Ytmeplpiamkaniaa
namespace Go.Proofs.Ytmeplpiamkaniaa
set_option linter.unusedVariables false
set_option linter.unusedSimpArgs false
open Go.ChangeShapes Go.WideShapes Go.Deep Go.RowKit
theorem lot_of_trod {H : Type} {enc : TypeId × Value → H} {P : Program} {w : World} {base : Nat} {spare : Nat → Bool} {held : Bool} {e ti : TypeId} {f1 f2 f3 : Field} {fuel : Nat} {cs : List Value} {x : DataW H × List MemPlace}
    (he : P.underlying e = some (.struct #[f1, f2, f3])) (hti : P.underlying ti = some (.int .i64)) (hone : (oneCellFields P #[f1, f2, f3] && (f1.type == ti && (f2.type == ti && f3.type == ti))) = true) (hC : P.cellsOf e = 3)
    (h : DataW.trod enc P w base spare held fuel e cs = some x) : ∃ y : Lt, WfL y ∧ cs = [.int .i64 y.1, .int .i64 y.2.1, .int .i64 y.2.2] := by
  simp only [Bool.and_eq_true, beq_iff_eq] at hone
  obtain ⟨hone, hf1, hf2, hf3⟩ := hone
  obtain ⟨ys, n', hn', hy, hlen, hyl, hf⟩ := DataW.trod_struct he h
  obtain ⟨o1, k1⟩ := hone_of hone 0 f1 rfl
  obtain ⟨o2, k2⟩ := hone_of hone 1 f2 rfl
  obtain ⟨o3, k3⟩ := hone_of hone 2 f3 rfl
  have g1 := hf 0 f1 rfl
  have g2 := hf 1 f2 rfl
  have g3 := hf 2 f3 rfl
  rw [o1, k1] at g1
  rw [o2, k2] at g2
  rw [o3, k3] at g3
  rw [hC] at hlen
  match cs, hlen with
  | [c1, c2, c3], _ =>
    simp only [List.drop_zero, List.take_succ_cons, List.take_zero, List.drop_succ_cons] at g1 g2 g3
    match ys, hyl with
    | [y1, y2, y3], _ =>
      simp only [List.getElem?_cons_zero, List.getElem?_cons_succ] at g1 g2 g3
      rw [hf1] at g1
      rw [hf2] at g2
      rw [hf3] at g3
      obtain ⟨u, eu, _, wu⟩ := DataW.trod_int hti g1
      obtain ⟨v, ev, _, wv⟩ := DataW.trod_int hti g2
      obtain ⟨z, ez, _, wz⟩ := DataW.trod_int hti g3
      simp at eu ev ez
      subst eu ev ez
      exact ⟨(u, v, z), ⟨wu, wv, wz⟩, rfl⟩
theorem lots_of_trod {H : Type} {enc : TypeId × Value → H} {P : Program} {w : World} {base : Nat} {spare : Nat → Bool} {held : Bool} {t e ti : TypeId} {f1 f2 f3 : Field} {fuel : Nat} {A : Option Addr} {len cap : Nat} {x : DataW H × List MemPlace}
    (ht : P.underlying t = some (.slice e)) (he : P.underlying e = some (.struct #[f1, f2, f3])) (hti : P.underlying ti = some (.int .i64)) (hone : (oneCellFields P #[f1, f2, f3] && (f1.type == ti && (f2.type == ti && f3.type == ti))) = true) (hC : P.cellsOf e = 3)
    (h : DataW.trod enc P w base spare held fuel t [.slice A len cap] = some x) : ∃ l, LotsAt w A len cap l := by
  rcases open_slice ht h with ⟨hcs, _⟩ | ⟨a, len', cap', m, n, D, Pl, hcs, hb, hl, hm, hmm, hx, hi⟩
  · simp at hcs
    obtain ⟨rfl, rfl, rfl⟩ := hcs
    exact ⟨[], ⟨rfl, Nat.le_refl _, Nat.zero_le _, by simp, fun h0 => absurd h0 (by omega)⟩⟩
  · simp at hcs
    obtain ⟨rfl, rfl, rfl⟩ := hcs
    have hlm : len ≤ m := by rw [hmm]; split <;> omega
    have key : ∀ i, i < len → ∃ y : Lt, WfL y ∧ w.cell? (a.add (i * 3)) = some (.int .i64 y.1) ∧ w.cell? (a.add (i * 3 + 1)) = some (.int .i64 y.2.1) ∧ w.cell? (a.add (i * 3 + 2)) = some (.int .i64 y.2.2) := by
      intro i hil
      obtain ⟨cs', hc, ht'⟩ := hi i (by omega)
      rw [hC] at hc
      obtain ⟨_, hcl, hat⟩ := World.cells?_some hc
      obtain ⟨y, hw, rfl⟩ := lot_of_trod he hti hone hC ht'
      have h1 := hat 0 (by omega)
      have h2 := hat 1 (by omega)
      have h3 := hat 2 (by omega)
      simp only [List.getElem?_cons_zero, List.getElem?_cons_succ] at h1 h2 h3
      rw [Go.Deep.add_add] at h1 h2 h3
      exact ⟨y, hw, by simpa using h1, by simpa using h2, by simpa using h3⟩
    refine ⟨(List.range len).map fun i => if h : i < len then (key i h).choose else (0, 0, 0), ?_⟩
    refine ⟨by simp, hl, hm, ?_, ?_⟩
    · intro y hy
      simp only [List.mem_map, List.mem_range] at hy
      obtain ⟨i, hi', rfl⟩ := hy
      rw [dif_pos hi']
      exact (key i hi').choose_spec.1
    · intro h0
      obtain ⟨b, off, spot⟩ := a
      have hc0 := (key 0 h0).choose_spec.2.1
      have hspot : spot = none := by simpa [Addr.add] using World.cell?_spot hc0
      subst hspot
      have hlt : b < w.heap.size := by simpa [Addr.add] using World.block_lt_of_cell? w _ hc0
      refine ⟨b, off, rfl, hlt, fun i y hi' => ?_⟩
      have hil : i < len := by have := (List.getElem?_eq_some_iff.1 hi').1; simpa using this
      have hs := (key i hil).choose_spec
      rw [List.getElem?_map, List.getElem?_range hil] at hi'
      simp only [Option.map_some, Option.some.injEq] at hi'
      rw [dif_pos hil] at hi'
      subst hi'
      exact ⟨(congrArg w.cell? (add_plain _ _ _).symm).trans hs.2.1, (congrArg w.cell? (by rw [add_plain, Nat.add_assoc])).trans hs.2.2.1, (congrArg w.cell? (by rw [add_plain, Nat.add_assoc])).trans hs.2.2.2⟩
end Go.Proofs.Ytmeplpiamkaniaa
namespace Go.Proofs.Ytmeplpiamkaniaa
set_option linter.unusedVariables false
set_option linter.unusedSimpArgs false
open Go.ChangeShapes Go.WideShapes Go.Deep Go.RowKit
section
variable {H : Type} {enc : TypeId × Value → H} {P : Program} {w : World} {base : Nat} {spare : Nat → Bool} {held : Bool}
theorem fields_of_trod {ts : TypeId} {fs : Array Field} {fuel : Nat} {cs : List Value} {x : DataW H × List MemPlace} (hs : P.underlying ts = some (.struct fs))
    (hone : ∀ (i : Nat) (f : Field), fs[i]? = some f → f.offset = i ∧ P.cellsOf f.type = 1) (hC : P.cellsOf ts = fs.size) (h : DataW.trod enc P w base spare held fuel ts cs = some x) :
    cs.length = fs.size ∧ ∃ n, ∀ (i : Nat) (f : Field), fs[i]? = some f → ∃ y, DataW.trod enc P w base spare held n f.type [cs.getD i undef] = some y := by
  obtain ⟨xs, n, _, _, hlen, hxl, hf⟩ := DataW.trod_struct hs h
  rw [hC] at hlen
  refine ⟨hlen, n, fun i f hi => ?_⟩
  have hlt : i < fs.size := (Array.getElem?_eq_some_iff.1 hi).1
  obtain ⟨ho, hc1⟩ := hone i f hi
  have g := hf i f hi
  rw [ho, hc1, take1_drop cs i undef (by omega), List.getElem?_eq_getElem (by omega)] at g
  exact ⟨_, g⟩
theorem nums_of_trod {t ti : TypeId} {k : IntKind} {fuel : Nat} {A : Option Addr} {len cap : Nat} {x : DataW H × List MemPlace} (ht : P.underlying t = some (.slice ti)) (hti : P.underlying ti = some (.int k)) (hc : P.cellsOf ti = 1)
    (h : DataW.trod enc P w base spare held fuel t [.slice A len cap] = some x) : ∃ l, Nums k w A len cap l := by
  rcases open_ints ht hti hc h with ⟨hcs, _⟩ | ⟨a, len', cap', zs, hcs, _, hl, hm, hz, _, hcell, hw⟩
  · simp at hcs
    obtain ⟨rfl, rfl, rfl⟩ := hcs
    exact ⟨[], Nums.nil _ _ _ _ (Nat.zero_le _)⟩
  · simp at hcs
    obtain ⟨rfl, rfl, rfl⟩ := hcs
    have hzl : len ≤ zs.length := by rw [hz]; split <;> omega
    have htl : (zs.take len).length = len := by rw [List.length_take]; omega
    refine ⟨zs.take len, htl, hl, hm, fun y hy => hw y (List.mem_of_mem_take hy), fun hn => ?_⟩
    obtain ⟨b, off, spot⟩ := a
    have h0 := hcell 0 (by omega)
    have hspot : spot = none := by simpa [Addr.add] using World.cell?_spot h0
    subst hspot
    have hb : b < w.heap.size := by simpa [Addr.add] using World.block_lt_of_cell? w _ h0
    refine ⟨b, off, rfl, hb, fun i hi => ?_⟩
    rw [htl] at hi
    have := hcell i (by omega)
    rw [add_plain] at this
    rw [this, List.getElem_take]
    simp [List.getD, List.getElem?_eq_getElem (show i < zs.length by omega)]
theorem slice_shape {t e : TypeId} {fuel : Nat} {v : Value} {x : DataW H × List MemPlace} (ht : P.underlying t = some (.slice e)) (h : DataW.trod enc P w base spare held fuel t [v] = some x) : ∃ A n c, v = .slice A n c := by
  rcases open_slice ht h with ⟨hcs, _⟩ | ⟨a, len, cap, m, n, D, Pl, hcs, _⟩
  · simp at hcs; exact ⟨_, _, _, hcs⟩
  · simp at hcs; exact ⟨_, _, _, hcs⟩
theorem eleven {cs : List Value} (h : cs.length = 11) : cs = [cs.getD 0 undef, cs.getD 1 undef, cs.getD 2 undef, cs.getD 3 undef, cs.getD 4 undef, cs.getD 5 undef, cs.getD 6 undef, cs.getD 7 undef, cs.getD 8 undef, cs.getD 9 undef, cs.getD 10 undef] := by
  match cs, h with
  | [_, _, _, _, _, _, _, _, _, _, _], _ => rfl
structure FlowTy (P : Program) (e ti tl el tn : TypeId) (fs : Array Field) (f1 f2 f3 : Field) : Prop where
  hs : P.underlying e = some (.struct fs)
  hz : fs.size = 11
  hone : oneCellFields P fs = true
  hty : (fs.toList.map fun f => f.type) = [ti, ti, ti, ti, ti, ti, ti, ti, ti, tl, tn]
  hti : P.underlying ti = some (.int .i64)
  htl : P.underlying tl = some (.slice el)
  hel : P.underlying el = some (.struct #[f1, f2, f3])
  honeL : (oneCellFields P #[f1, f2, f3] && (f1.type == ti && (f2.type == ti && f3.type == ti))) = true
  hCL : P.cellsOf el = 3
  htn : P.underlying tn = some (.slice ti)
  hcti : P.cellsOf ti = 1
  hC : P.cellsOf e = 11
variable {e ti tl el tn : TypeId} {fs : Array Field} {f1 f2 f3 : Field}
theorem flow_of_trod {fuel : Nat} {cs : List Value} {x : DataW H × List MemPlace} (T : FlowTy P e ti tl el tn fs f1 f2 f3) (h : DataW.trod enc P w base spare held fuel e cs = some x) : ∃ f s t, WfF f ∧ cs = flowL f s t ∧ FlB w f s t := by
  obtain ⟨hlen, n, hf⟩ := fields_of_trod T.hs (hone_of T.hone) (T.hC.trans T.hz.symm) h
  rw [T.hz] at hlen
  have hfi : ∀ i ty, (fs.toList.map fun f => f.type)[i]? = some ty → ∃ y, DataW.trod enc P w base spare held n ty [cs.getD i undef] = some y := by
    intro i ty hi
    rw [List.getElem?_map, Array.getElem?_toList] at hi
    obtain ⟨f, hf1, rfl⟩ := Option.map_eq_some_iff.1 hi
    exact hf i f hf1
  rw [T.hty] at hfi
  have key : ∀ i, i < 9 → ∃ u, cs.getD i undef = .int .i64 u ∧ (Lit.int .i64 u).wf = true := by
    intro i hi
    obtain ⟨y, hy⟩ := hfi i ti (by
      match i, hi with
      | 0, _ => rfl
      | 1, _ => rfl
      | 2, _ => rfl
      | 3, _ => rfl
      | 4, _ => rfl
      | 5, _ => rfl
      | 6, _ => rfl
      | 7, _ => rfl
      | 8, _ => rfl)
    obtain ⟨u, eu, _, wu⟩ := DataW.trod_int T.hti hy
    simp at eu
    exact ⟨u, by simpa using eu, wu⟩
  obtain ⟨u0, e0, v0⟩ := key 0 (by omega)
  obtain ⟨u1, e1, v1⟩ := key 1 (by omega)
  obtain ⟨u2, e2, v2⟩ := key 2 (by omega)
  obtain ⟨u3, e3, v3⟩ := key 3 (by omega)
  obtain ⟨u4, e4, v4⟩ := key 4 (by omega)
  obtain ⟨u5, e5, v5⟩ := key 5 (by omega)
  obtain ⟨u6, e6, v6⟩ := key 6 (by omega)
  obtain ⟨u7, e7, v7⟩ := key 7 (by omega)
  obtain ⟨u8, e8, v8⟩ := key 8 (by omega)
  obtain ⟨y9, h9⟩ := hfi 9 tl rfl
  obtain ⟨y10, h10⟩ := hfi 10 tn rfl
  obtain ⟨A, la, ca, e9⟩ := slice_shape T.htl h9
  obtain ⟨B, lb, cb, e10⟩ := slice_shape T.htn h10
  rw [e9] at h9
  rw [e10] at h10
  obtain ⟨ps, hps⟩ := lots_of_trod T.htl T.hel T.hti T.honeL T.hCL h9
  obtain ⟨ms, hms⟩ := nums_of_trod T.htn T.hti T.hcti h10
  refine ⟨⟨u0, u1, u2, u3, u4, u5, u6, u7, u8, ps, ms⟩, (A, la, ca), (B, lb, cb), ⟨v0, v1, v2, v3, v4, v5, v6, v7, v8⟩, ?_, hps, hms⟩
  rw [eleven hlen, e0, e1, e2, e3, e4, e5, e6, e7, e8, e9, e10]
  rfl
theorem flows_of_trod {t : TypeId} {fuel : Nat} {A : Option Addr} {len cap : Nat} {x : DataW H × List MemPlace} (ht : P.underlying t = some (.slice e)) (T : FlowTy P e ti tl el tn fs f1 f2 f3)
    (h : DataW.trod enc P w base spare held fuel t [.slice A len cap] = some x) : ∃ l, FlowsAt w A len cap l := by
  rcases open_slice ht h with ⟨hcs, _⟩ | ⟨a, len', cap', m, n, D, Pl, hcs, hb, hl, hm, hmm, hx, hi⟩
  · simp at hcs
    obtain ⟨rfl, rfl, rfl⟩ := hcs
    exact ⟨[], FlowsAt.nil _ _ _ (Nat.zero_le _)⟩
  · simp at hcs
    obtain ⟨rfl, rfl, rfl⟩ := hcs
    have hlm : len ≤ m := by rw [hmm]; split <;> omega
    have key : ∀ i, i < len → ∃ f : Fl, WfF f ∧ ∃ s t, FlB w f s t ∧ ∀ k u, (flowL f s t)[k]? = some u → w.cell? (a.add (i * 11 + k)) = some u := by
      intro i hil
      obtain ⟨cs', hc, ht'⟩ := hi i (by omega)
      rw [T.hC] at hc
      obtain ⟨_, hcl, hat⟩ := World.cells?_some hc
      obtain ⟨f, s, t', hw, rfl, hB⟩ := flow_of_trod T ht'
      refine ⟨f, hw, s, t', hB, fun k u hk => ?_⟩
      have hk11 : k < 11 := by have := (List.getElem?_eq_some_iff.1 hk).1; simpa [flowL] using this
      have h1 := hat k hk11
      rw [hk, Go.Deep.add_add] at h1
      exact h1
    refine ⟨(List.range len).map fun i => if h : i < len then (key i h).choose else ⟨0, 0, 0, 0, 0, 0, 0, 0, 0, [], []⟩, ?_⟩
    refine ⟨by simp, hl, hm, ?_⟩
    intro h0
    obtain ⟨b, off, spot⟩ := a
    obtain ⟨s0, t0, _, hc0⟩ := (key 0 h0).choose_spec.2
    have hc0 := hc0 0 _ rfl
    have hspot : spot = none := by simpa [Addr.add] using World.cell?_spot hc0
    subst hspot
    have hlt : b < w.heap.size := by simpa [Addr.add] using World.block_lt_of_cell? w _ hc0
    refine ⟨b, off, rfl, hlt, fun i y hi' => ?_⟩
    have hil : i < len := by have := (List.getElem?_eq_some_iff.1 hi').1; simpa using this
    have hs := (key i hil).choose_spec
    rw [List.getElem?_map, List.getElem?_range hil] at hi'
    simp only [Option.map_some, Option.some.injEq] at hi'
    rw [dif_pos hil] at hi'
    subst hi'
    obtain ⟨hw, s, t', hB, hc⟩ := hs
    have hc' : ∀ k u, (flowL (key i hil).choose s t')[k]? = some u → w.cell? ⟨b, off + i * 11 + k, none⟩ = some u := fun k u hk => (congrArg w.cell? (by rw [add_plain, Nat.add_assoc])).trans (hc k u hk)
    exact ⟨hw, s, t', ⟨hc' 0 _ rfl, hc' 1 _ rfl, hc' 2 _ rfl, hc' 3 _ rfl, hc' 4 _ rfl, hc' 5 _ rfl, hc' 6 _ rfl, hc' 7 _ rfl, hc' 8 _ rfl, hc' 9 _ rfl, hc' 10 _ rfl⟩, hB⟩
end
end Go.Proofs.Ytmeplpiamkaniaa
namespace Go.Proofs.Ytmeplpiamkaniaa
set_option linter.unusedVariables false
set_option linter.unusedSimpArgs false
open Go.RowKit
theorem FlCells.at_ {w : World} {b o : Nat} {f : Fl} {s t : Sl} (h : FlCells w b o f s t) {k : Nat} {u : Value} (hu : (flowL f s t)[k]? = some u) : w.cell? ⟨b, o + k, none⟩ = some u := by
  obtain ⟨c0, c1, c2, c3, c4, c5, c6, c7, c8, c9, c10⟩ := h
  have hk : k < 11 := by have := (List.getElem?_eq_some_iff.1 hu).1; simpa [flowL] using this
  obtain rfl | rfl | rfl | rfl | rfl | rfl | rfl | rfl | rfl | rfl | rfl : k = 0 ∨ k = 1 ∨ k = 2 ∨ k = 3 ∨ k = 4 ∨ k = 5 ∨ k = 6 ∨ k = 7 ∨ k = 8 ∨ k = 9 ∨ k = 10 := by omega
  all_goals (simp only [flowL, List.getElem?_cons_zero, List.getElem?_cons_succ, Option.some.injEq] at hu; subst hu; assumption)
section
variable {w w' : World} {A : Option Addr} {m c : Nat} {l : List Fl}
theorem FlB.blk {f : Fl} {s t : Sl} (h : FlB w f s t) : (0 < s.2.1 → ∃ b, ob s.1 = some b ∧ b < w.heap.size) ∧ (0 < t.2.1 → ∃ b, ob t.1 = some b ∧ b < w.heap.size) :=
  ⟨fun h0 => by obtain ⟨b, o, e, hb, _⟩ := h.1.at_ h0; exact ⟨b, by rw [e]; rfl, hb⟩, fun h0 => by obtain ⟨b, o, e, hb, _⟩ := h.2.at_ h0; exact ⟨b, by rw [e]; rfl, hb⟩⟩
theorem FlowsAt.fs (h : FlowsAt w A m c l) : ∃ q : List FlSl, q.map Prod.fst = l ∧ (∀ p ∈ q, WfF p.1 ∧ FlB w p.1 p.2.1 p.2.2) ∧ (0 < m → ∃ b o, A = some ⟨b, o, none⟩ ∧ b < w.heap.size ∧ ∀ j u, (flatF q)[j]? = some u → w.cell? ⟨b, o + j, none⟩ = some u) := by
  rcases Nat.eq_zero_or_pos m with h0 | h0
  · have : l = [] := List.eq_nil_of_length_eq_zero (by rw [h.len, h0])
    subst this
    exact ⟨[], rfl, fun p hp => (by cases hp), fun h1 => by omega⟩
  · obtain ⟨b, o, hA, hb, hc⟩ := h.at_ h0
    have hch : ∀ i : Nat, ∃ p : FlSl, ∀ f, l[i]? = some f → p.1 = f ∧ WfF p.1 ∧ FlCells w b (o + i * 11) p.1 p.2.1 p.2.2 ∧ FlB w p.1 p.2.1 p.2.2 := by
      intro i
      cases hf : l[i]? with
      | none => exact ⟨(zeroFl, zS, zS), fun f hf => (by cases hf)⟩
      | some f =>
        obtain ⟨h1, s, t, h2, h3⟩ := hc i f hf
        exact ⟨(f, s, t), fun f' hf' => by injection hf' with hf'; subst hf'; exact ⟨rfl, h1, h2, h3⟩⟩
    obtain ⟨g, hg⟩ := Classical.axiomOfChoice hch
    have hget : ∀ i p, ((List.range m).map g)[i]? = some p → ∃ f, l[i]? = some f ∧ g i = p := by
      intro i p hp
      rw [List.getElem?_map] at hp
      obtain ⟨i', hi', rfl⟩ := Option.map_eq_some_iff.1 hp
      obtain ⟨hlt, hi2⟩ := List.getElem?_eq_some_iff.1 hi'
      simp at hi2 hlt
      subst hi2
      exact ⟨_, List.getElem?_eq_getElem (by rw [h.len]; exact hlt), rfl⟩
    refine ⟨(List.range m).map g, ?_, fun p hp => ?_, fun _ => ⟨b, o, hA, hb, fun j u hu => ?_⟩⟩
    · apply List.ext_getElem?
      intro i
      rw [List.getElem?_map]
      rcases Nat.lt_or_ge i m with hi | hi
      · have hf : l[i]? = some (l[i]'(by rw [h.len]; exact hi)) := List.getElem?_eq_getElem _
        rw [List.getElem?_map, List.getElem?_range hi, hf]
        simp only [Option.map_some]
        rw [(hg i _ hf).1]
      · rw [List.getElem?_eq_none (by simpa using hi), List.getElem?_eq_none (by rw [h.len]; exact hi)]; rfl
    · obtain ⟨i, hi⟩ := List.getElem?_of_mem hp
      obtain ⟨f, hf, rfl⟩ := hget i p hi
      obtain ⟨_, h1, _, h3⟩ := hg i f hf
      exact ⟨h1, h3⟩
    · have hlt := (List.getElem?_eq_some_iff.1 hu).1
      rw [flatF_len, List.length_map, List.length_range] at hlt
      have hi : j / 11 < m := by omega
      have hp : ((List.range m).map g)[j / 11]? = some (g (j / 11)) := by rw [List.getElem?_map, List.getElem?_range hi]; rfl
      obtain ⟨f, hf, _⟩ := hget _ _ hp
      have h1 := flatF_get _ _ _ hp (j % 11) (by omega)
      rw [show j / 11 * 11 + j % 11 = j by omega, hu] at h1
      have := (hg _ f hf).2.2.1.at_ h1.symm
      rw [show o + j / 11 * 11 + j % 11 = o + j by omega] at this
      exact this
theorem flatF_one (q : List FlSl) : ∀ u ∈ flatF q, u.oneCell' = true := by
  induction q with
  | nil => intro u hu; cases hu
  | cons p q ih =>
    obtain ⟨f, s, t⟩ := p
    intro u hu
    rw [flatF] at hu
    rcases List.mem_append.1 hu with hu | hu
    · exact flowL_one f s t u hu
    · exact ih u hu
end
theorem run_appFs (w0 w : World) (hE : E w0 w) (ty : TypeId) (base : Nat) (A : Option Addr) (n c : Nat) (q : List FlSl) (hown : FRow w base A n c q) (hA : ∀ b, ob A = some b → w0.heap.size ≤ b) (A2 : Option Addr) (m c2 : Nat) (l2 : List Fl) (hF : FlowsAt w0 A2 m c2 l2) (hlen : n + m ≤ 1000000) (hbase : base ≤ w.heap.size) :
    ∃ A' c' w' q2, (Builtin.append_ #[23, 23] ty #[.slice A n c, .slice A2 m c2]).run Try.prog w = .ok (.slice A' (n + m) c') w' ∧ FRow w' base A' (n + m) c' (q ++ q2) ∧ q2.map Prod.fst = l2 ∧
      (∀ p ∈ q2, (0 < p.2.1.2.1 → ∃ b, ob p.2.1.1 = some b ∧ b < w0.heap.size) ∧ (0 < p.2.2.2.1 → ∃ b, ob p.2.2.1 = some b ∧ b < w0.heap.size)) ∧ w.grownBy w' (ob A) ∧ (ob A' = ob A ∨ ob A' = some w.heap.size) := by
  obtain ⟨i, hi, hz0, hz1, hz2⟩ := info_parts flowT.info
  rcases A2 with _ | ad
  · have hm : m = 0 := by
      rcases Nat.eq_zero_or_pos m with h0 | h0
      · exact h0
      · obtain ⟨_, _, h, _⟩ := hF.at_ h0; cases h
    subst hm
    have hn : l2 = [] := List.eq_nil_of_length_eq_zero hF.len
    subst hn
    refine ⟨A, c, w, [], ?_, by simpa using hown, rfl, fun p hp => (by cases hp), World.grownBy.refl w _, .inl rfl⟩
    rcases hown.form with ⟨rfl, rfl, rfl⟩ | ⟨g, rfl, _, _, hnc, _⟩
    · simp [Builtin.append_, run_underlying flowT.und, sizeOf, typeInfo, hi, Builtin.lenOf, Builtin.firstCells]
    · simp [Builtin.append_, run_underlying flowT.und, sizeOf, typeInfo, hi, Builtin.lenOf, Builtin.firstCells, hnc, storeCells]
  · obtain ⟨q2, hq2, hqp, hqc⟩ := hF.fs
    have hl2 : q2.length = m := by have := congrArg List.length hq2; rw [List.length_map, hF.len] at this; exact this
    have hcells : ∀ j u, (flatF q2)[j]? = some u → w.cell? (ad.add j) = some u := by
      intro j u hu
      have hlt := (List.getElem?_eq_some_iff.1 hu).1
      rw [flatF_len] at hlt
      obtain ⟨b, o, e, hb, hc⟩ := hqc (by omega)
      obtain rfl : ad = ⟨b, o, none⟩ := Option.some.inj e
      rw [add_plain]
      exact (hE.cell (p := ⟨b, _, none⟩) hb).trans (hc j u hu)
    obtain ⟨v', w', hrun, h2', h3, h4, h5⟩ := run_append_own_at (P := Try.prog) w base 23 ty 47 i _ 11 120 flowT.und hi hz0 hz1 hz2 rfl (by decide) _ n _ hown.2.1 ad m c2 (flatF q2) (by rw [flatF_len, hl2]) hcells (flatF_one _) (by unfold maxLen; omega) (by omega) hbase
    rw [← flatF_app] at h2'
    rw [ob_eq] at h3
    rw [ob_eq] at h5
    have hslice : ∃ A' c', v' = .slice A' (n + m) c' := by
      rcases h2'.2 with ⟨rfl, h0⟩ | ⟨g', c', cur, rfl, _⟩
      · exact ⟨none, 0, by rw [h0]⟩
      · exact ⟨_, c', rfl⟩
    obtain ⟨A', c', rfl⟩ := hslice
    rw [ob_eq] at h5
    have hAA : ∀ b, ob A' = some b → ob A = some b ∨ w.heap.size ≤ b := by
      intro b hb
      rcases h5 with h | h
      · exact .inl (by rw [← h]; exact hb)
      · right; rw [h] at hb; injection hb with hb; omega
    have hlow : ∀ p ∈ q2, (0 < p.2.1.2.1 → ∃ b, ob p.2.1.1 = some b ∧ b < w0.heap.size) ∧ (0 < p.2.2.2.1 → ∃ b, ob p.2.2.1 = some b ∧ b < w0.heap.size) := fun p hp => (hqp p hp).2.blk
    have key : ∀ r : FlSl, FlB w r.1 r.2.1 r.2.2 → (0 < r.2.1.2.1 → ob r.2.1.1 ≠ ob A) → (0 < r.2.2.2.1 → ob r.2.2.1 ≠ ob A) → FlB w' r.1 r.2.1 r.2.2 ∧ (0 < r.2.1.2.1 → ob r.2.1.1 ≠ ob A') ∧ (0 < r.2.2.2.1 → ob r.2.2.1 ≠ ob A') := fun r hr hn1 hn2 => by
      obtain ⟨k1, k2⟩ := hr.blk
      refine ⟨hr.grown h3 hn1 hn2, fun h0 e => ?_, fun h0 e => ?_⟩
      · obtain ⟨b, e1, hb⟩ := k1 h0
        rcases hAA b (by rw [← e]; exact e1) with h | h
        · exact hn1 h0 (by rw [e1, h])
        · omega
      · obtain ⟨b, e1, hb⟩ := k2 h0
        rcases hAA b (by rw [← e]; exact e1) with h | h
        · exact hn2 h0 (by rw [e1, h])
        · omega
    refine ⟨A', c', w', q2, hrun, ⟨by simp [hown.1, hl2], h2', fun r hr => ?_⟩, hq2, hlow, h3, h5⟩
    rcases List.mem_append.1 hr with hr | hr
    · obtain ⟨a1, a2, a3, a4⟩ := hown.2.2 r hr
      exact ⟨a1, key r a2 a3 a4⟩
    · obtain ⟨b1, b2⟩ := hqp r hr
      obtain ⟨k1, k2⟩ := hlow r hr
      refine ⟨b1, key r (b2.e hE) (fun h0 e => ?_) (fun h0 e => ?_)⟩
      · obtain ⟨b, e1, hb⟩ := k1 h0
        have := hA b (by rw [← e]; exact e1)
        omega
      · obtain ⟨b, e1, hb⟩ := k2 h0
        have := hA b (by rw [← e]; exact e1)
        omega
end Go.Proofs.Ytmeplpiamkaniaa
namespace Go.Proofs.Ytmeplpiamkaniaa
set_option linter.unusedVariables false
set_option linter.unusedSimpArgs false
open Go.RowKit
theorem results_cellB {fn : Func} {t t2 : Tmp} {T : TypeId} (h : fn.results = #[.cell t T, .tmp t2]) {tmps : Array Value} {P : Program} {w : World} {b1 : Nat} {v1 v2 : Value} (h1 : tmps.getD t undef = .pointer (some ⟨b1, 0, none⟩)) (h2 : tmps.getD t2 undef = v2)
    (l1 : (loadVar T ⟨b1, 0, none⟩).run P w = .ok v1 w) : (results fn tmps).run P w = .ok (.tuple #[v1, v2]) w := by
  have h1' : tmps[t]?.getD undef = .pointer (some ⟨b1, 0, none⟩) := by simpa using h1
  have h2' : tmps[t2]?.getD undef = v2 := by simpa using h2
  simp [results, h, h1', h2', l1, asAddr, Result.andThen]
theorem ex_set11 {w : World} {b : Nat} (f : Fl) (s t : Sl) : Ex (fun i => i = b) w (((((((((((w.setCell ⟨b, 0, none⟩ (.int .i64 f.id)).setCell ⟨b, 1, none⟩ (.int .i64 f.step)).setCell ⟨b, 2, none⟩ (.int .i64 f.kind)).setCell ⟨b, 3, none⟩ (.int .i64 f.tick)).setCell ⟨b, 4, none⟩ (.int .i64 f.actor)).setCell ⟨b, 5, none⟩ (.int .i64 f.frm)).setCell ⟨b, 6, none⟩ (.int .i64 f.to)).setCell ⟨b, 7, none⟩ (.int .i64 f.item)).setCell ⟨b, 8, none⟩ (.int .i64 f.n)).setCell ⟨b, 9, none⟩ (.slice s.1 s.2.1 s.2.2)).setCell ⟨b, 10, none⟩ (.slice t.1 t.2.1 t.2.2)) :=
  ((((((((((((Ex.refl (fun i => i = b) w).setCell ⟨b, 0, none⟩ (.inr rfl) (.int .i64 f.id)).setCell ⟨b, 1, none⟩ (.inr rfl) (.int .i64 f.step)).setCell ⟨b, 2, none⟩ (.inr rfl) (.int .i64 f.kind)).setCell ⟨b, 3, none⟩ (.inr rfl) (.int .i64 f.tick)).setCell ⟨b, 4, none⟩ (.inr rfl) (.int .i64 f.actor)).setCell ⟨b, 5, none⟩ (.inr rfl) (.int .i64 f.frm)).setCell ⟨b, 6, none⟩ (.inr rfl) (.int .i64 f.to)).setCell ⟨b, 7, none⟩ (.inr rfl) (.int .i64 f.item)).setCell ⟨b, 8, none⟩ (.inr rfl) (.int .i64 f.n)).setCell ⟨b, 9, none⟩ (.inr rfl) (.slice s.1 s.2.1 s.2.2)).setCell ⟨b, 10, none⟩ (.inr rfl) (.slice t.1 t.2.1 t.2.2))
def RetFlowZ (w : World) (fs : List Fl) (i : Int) (e : Ending) (w' : World) : Prop :=
  E w w' ∧ ((getF fs i = none ∧ e = .returned (.tuple #[flV zeroFl none 0 0 none 0 0, .bool false])) ∨ ∃ f A n c A' n' c', getF fs i = some f ∧ e = .returned (.tuple #[flV f A n c A' n' c', .bool true]) ∧ LotsAt w' A n c f.parts ∧ Nums .i64 w' A' n' c' f.made ∧ WfF f)
set_option linter.unusedSimpArgs false in
set_option maxHeartbeats 4000000 in
set_option maxRecDepth 100000 in
theorem gFlow_c (X : Nat → Prop) (g : Nat) (fs : List Fl) (i : Int) (w : World) (h : GraphAt w X g fs) (hz : ∀ f ∈ fs, f.parts.length ≤ 1000000 ∧ f.made.length ≤ 1000000) (hw : (Lit.int .i64 i).wf = true) :
    Calls Try.prog 32 #[.pointer (some ⟨g, 0, none⟩), .int .i64 i] w (RetFlowZ w fs i) := by
  obtain ⟨w1, hw1⟩ : ∃ w1, w.alloc (.cells #[.int .i64 0, .int .i64 0, .int .i64 0, .int .i64 0, .int .i64 0, .int .i64 0, .int .i64 0, .int .i64 0, .int .i64 0, .slice none 0 0, .slice none 0 0] 47) = w1 := ⟨_, rfl⟩
  have hE1 : E w w1 := by rw [← hw1]; exact (E.refl w).alloc _
  have hb1 : FlBox w1 w.heap.size zeroFl zS zS := by rw [← hw1]; exact FlBox.new w zeroFl zS zS
  obtain ⟨p, hG⟩ := h.e hE1
  obtain ⟨gc0, _, gc2, _, _⟩ := hG.blk.cells
  have hlk := fun m => (hG.mp.drewN m).lookOk mapIT hw
  have hlk0 := hG.mp.lookOk mapIT hw
  have hn63 := hG.flows.n63
  have HB1 := Lib.hid hb1
  have HE1 := Lib.hid hE1
  cases hp : posF fs i with
  | none =>
    rw [plc_none hp] at hlk hlk0
    simp only [Option.getD, Option.isSome] at hlk hlk0
    have HF := Lib.hid (posF_none.1 hp)
    obtain ⟨⟨b0, b1, b2, b3, b4, b5, b6, b7, b8, b9, b10⟩, z0, z1, z2, z3, z4, z5, z6, z7, z8, z9, z10⟩ := hb1.both
    clear hp hG hz hw hn63 hE1 hb1 h
    go_enter Try.func32, Try.ntmps32
    go_upto_region 1 with fail
    try rw [hw1]
    clear hw1
    go_wp2_with fail
    have hfin := HB1.out.putAll zeroFl zS zS
    refine bodyPost_ret (results_cellB rfl rfl rfl hfin.loadVar) rfl ?_
    exact ⟨e_ex HE1.out (ex_set11 zeroFl zS zS) (fun j hj => by omega), .inl ⟨HF.out, rfl⟩⟩
  | some j =>
    rw [plc_some hp] at hlk hlk0
    simp only [Option.getD, Option.isSome] at hlk hlk0
    obtain ⟨f0, hq0, hgf, hida⟩ := posF_some hp
    clear hida
    have hjn : j < fs.length := (List.getElem?_eq_some_iff.1 hq0).1
    obtain ⟨b3, o3, f, s, t, hAe, hb3, hq, hwf, hcq, hB⟩ := hG.flows.get hjn
    rw [hq0] at hq
    injection hq with hq
    subst hq
    rw [hAe] at gc0
    have hjI : (j : Int) < (fs.length : Int) := by omega
    have hzz := hz f0 (List.mem_of_getElem? hq0)
    have hl1 := hB.1.len
    have hl2 := hB.2.len
    have HC := Lib.hid (copyFlow_c f0 s.1 s.2.1 s.2.2 t.1 t.2.1 t.2.2 w1 hB (by omega) (by omega))
    have HGF := Lib.hid hgf
    have HWF := Lib.hid hwf
    have HSZ := Lib.hid (lt_blk hb1)
    unfold flV at HC
    unfold FlCells at hcq
    obtain ⟨q0, q1, q2, q3, q4, q5, q6, q7, q8, q9, q10⟩ := hcq
    clear hp hG hq0 hgf hjn hAe hz hB hwf hzz hl1 hl2 hb1 h hE1
    generalize fs.length = nn at *
    go_enter Try.func32, Try.ntmps32
    go_upto_region 1 with fail
    try rw [hw1]
    clear hw1
    go_wp2_with (go_at_call 42; refine HC.out.mono ?_; rintro e w3 ⟨A, n, c, A', n', c', rfl, hO, hO', hap, hE3⟩; unfold flV; have HB3 := Lib.hid (HB1.out.e hE3); obtain ⟨⟨b0, b1, b2, b3, b4, b5, b6, b7, b8, b9, b10⟩, z0, z1, z2, z3, z4, z5, z6, z7, z8, z9, z10⟩ := HB3.out.both)
    have hfin := HB3.out.putAll f0 (A, n, c) (A', n', c')
    have hX := ex_set11 (w := w3) (b := w.heap.size) f0 (A, n, c) (A', n', c')
    simp only at hfin hX
    refine bodyPost_ret (results_cellB rfl rfl rfl hfin.loadVar) rfl ?_
    have hsz := HSZ.out
    exact ⟨e_ex (HE1.out.trans hE3) hX (fun j hj => by omega), .inr ⟨f0, A, n, c, A', n', c', HGF.out, rfl, (hO.ex hX (fun b hb e => by have := (hO.ltN b hb).1; omega)).reads, (hO'.ex hX (fun b hb e => by have := (hO'.ltN b hb).1; omega)).reads, HWF.out⟩⟩
end Go.Proofs.Ytmeplpiamkaniaa
namespace Go.Proofs.Ytmeplpiamkaniaa
set_option linter.unusedVariables false
set_option linter.unusedSimpArgs false
open Go.RowKit
def OwnO (w : World) (base : Nat) (A : Option Addr) (n c : Nat) (l : List Int) : Prop :=
  l.length = n ∧ (∀ x ∈ l, (Lit.int .i64 x).wf = true) ∧ n ≤ c ∧ c ≤ maxLen ∧ ∃ g o cur, A = some ⟨g, o, none⟩ ∧ base ≤ g ∧ w.heap[g]? = some (.cells cur 3 (0, 0)) ∧ o + c ≤ cur.size ∧ ∀ (j : Nat) (x : Int), l[j]? = some x → cur[o + j]? = some (.int .i64 x)
section
variable {w w' : World} {base base' : Nat} {A : Option Addr} {n c : Nat} {l : List Int}
theorem OwnO.one (w : World) {x : Int} (hx : (Lit.int .i64 x).wf = true) : OwnO (w.alloc (.cells #[.int .i64 x] 3)) w.heap.size (some ⟨w.heap.size, 0, none⟩) 1 1 [x] :=
  ⟨rfl, fun y hy => by rw [List.mem_singleton] at hy; subst hy; exact hx, Nat.le_refl _, by unfold maxLen; omega, w.heap.size, 0, _, rfl, Nat.le_refl _, heap_alloc_new _ _, by simp, fun j y hy => by
    cases j with
    | zero => simp at hy; subst hy; rfl
    | succ j => simp at hy⟩
theorem OwnO.ltN (h : OwnO w base A n c l) : ∀ b, ob A = some b → base ≤ b ∧ b < w.heap.size := by
  obtain ⟨_, _, _, _, g, o, cur, rfl, hb, hh, _⟩ := h
  intro b e
  have : g = b := by injection e
  subst this
  exact ⟨hb, lt_blk hh⟩
theorem OwnO.e (h : OwnO w base A n c l) (hE : E w w') : OwnO w' base A n c l := by
  obtain ⟨a1, a2, a3, a4, g, o, cur, rfl, hb, hh, r⟩ := h
  exact ⟨a1, a2, a3, a4, g, o, cur, rfl, hb, (hE.block (lt_blk hh)).trans hh, r⟩
theorem OwnO.ex {X : Nat → Prop} (h : OwnO w base A n c l) (hX : Ex X w w') (hb : ∀ b, ob A = some b → ¬ X b) : OwnO w' base A n c l := by
  obtain ⟨a1, a2, a3, a4, g, o, cur, rfl, hb', hh, r⟩ := h
  exact ⟨a1, a2, a3, a4, g, o, cur, rfl, hb', (hX.block _ (lt_blk hh) (hb g rfl)).trans hh, r⟩
theorem OwnO.rebase (h : OwnO w base A n c l) (hb : base' ≤ base) : OwnO w base' A n c l := by
  obtain ⟨a1, a2, a3, a4, g, o, cur, rfl, hb', r⟩ := h
  exact ⟨a1, a2, a3, a4, g, o, cur, rfl, by omega, r⟩
theorem OwnO.pop {x : Int} (h : OwnO w base A n c (x :: l)) : ∃ g o, A = some ⟨g, o, none⟩ ∧ g < w.heap.size ∧ base ≤ g ∧ 1 ≤ n ∧ n ≤ c ∧ c ≤ maxLen ∧ w.cell? ⟨g, o, none⟩ = some (.int .i64 x) ∧ (Lit.int .i64 x).wf = true ∧
    OwnO w base (some ⟨g, o + 1, none⟩) (n - 1) (c - 1) l ∧ (c = 1 → OwnO w base (some ⟨g, o, none⟩) 0 0 l) := by
  obtain ⟨a1, a2, a3, a4, g, o, cur, rfl, hb, hh, hs, hc⟩ := h
  rw [List.length_cons] at a1
  have h0 : w.cell? ⟨g, o, none⟩ = some (.int .i64 x) := by
    rw [cell_of_row _ _ o _ _ _ hh]
    exact hc 0 x rfl
  have hw := fun y (hy : y ∈ l) => a2 y (List.mem_cons_of_mem _ hy)
  refine ⟨g, o, rfl, lt_blk hh, hb, by omega, a3, a4, h0, a2 x List.mem_cons_self, ⟨by omega, hw, by omega, by omega, g, o + 1, cur, rfl, hb, hh, by omega, fun j y hy => ?_⟩, fun h1 => ⟨by omega, hw, by omega, by unfold maxLen; omega, g, o, cur, rfl, hb, hh, by omega, fun j y hy => ?_⟩⟩
  · have := hc (j + 1) y (by simpa using hy)
    rw [show o + 1 + j = o + (j + 1) by omega]; exact this
  · have : l = [] := List.eq_nil_of_length_eq_zero (by omega)
    subst this
    simp at hy
theorem OwnO.cell (h : OwnO w base A n c l) {i : Nat} (hi : i < n) : ∃ g o x, A = some ⟨g, o, none⟩ ∧ l[i]? = some x ∧ w.cell? ⟨g, o + i, none⟩ = some (.int .i64 x) := by
  obtain ⟨a1, a2, a3, a4, g, o, cur, rfl, hb, hh, hs, hc⟩ := h
  have hx : l[i]? = some (l[i]'(by omega)) := List.getElem?_eq_getElem _
  exact ⟨g, o, _, rfl, hx, by rw [cell_of_row _ _ _ _ _ _ hh]; exact hc i _ hx⟩
theorem run_appO (w : World) (ty : TypeId) (base : Nat) (A : Option Addr) (n c : Nat) (l : List Int) (h : OwnO w base A n c l) (b2 : Nat) (v : Int) (hcell : w.cell? ⟨b2, 0, none⟩ = some (.int .i64 v)) (hv : (Lit.int .i64 v).wf = true) (hn : n ≤ 1000000) :
    ∃ A' c' w', (Builtin.append_ #[22, 22] ty #[.slice A n c, .slice (some ⟨b2, 0, none⟩) 1 1]).run Try.prog w = .ok (.slice A' (n + 1) c') w' ∧ OwnO w' base A' (n + 1) c' (l ++ [v]) ∧ w.grownBy w' (ob A) ∧ (ob A' = ob A ∨ ob A' = some w.heap.size) := by
  obtain ⟨i, hi, hz0, hz1, hz2⟩ := info_parts intTk.info
  obtain ⟨a1, a2, a3, a4, g, o, cur, rfl, hb, hh, hs, hc⟩ := h
  have hnews : ∀ (j : Nat) u, [Value.int .i64 v][j]? = some u → w.cell? ((⟨b2, 0, none⟩ : Addr).add j) = some u := by
    intro j u hu
    cases j with
    | zero => simp at hu; subst hu; rw [add_plain]; exact hcell
    | succ j => simp at hu
  have hwf : ∀ x ∈ l ++ [v], (Lit.int .i64 x).wf = true := by
    intro y hy
    rcases List.mem_append.1 hy with hy | hy
    · exact a2 y hy
    · rw [List.mem_singleton] at hy; subst hy; exact hv
  have hlen : (l ++ [v]).length = n + 1 := by simp [a1]
  by_cases hr : n + 1 ≤ c
  · have hrun := run_append_room_cells (P := Try.prog) w 22 ty 3 i intTk.und hi g o n c ⟨b2, 0, none⟩ 1 1 [.int .i64 v] (by simp [hz1]) hnews (by simp [Value.oneCell']) hr
      (fun j hj => by
        have : j = 0 := by simpa using hj
        subst this
        rw [hz1, Nat.mul_one, Nat.add_zero, cell_of_row _ _ _ _ _ _ hh]
        exact Option.isSome_iff_exists.2 ⟨_, Array.getElem?_eq_getElem (by omega)⟩)
      (fun j hj => frozen_of_row _ _ _ _ _ hh)
    rw [hz1, Nat.mul_one] at hrun
    have hset := heap_setCell_same w g (o + n) cur 3 (.int .i64 v) hh
    refine ⟨_, c, _, hrun, ⟨hlen, hwf, hr, a4, g, o, cur.setIfInBounds (o + n) (.int .i64 v), rfl, hb, hset, by simpa using hs, fun j x hx => ?_⟩, ⟨rfl, rfl, rfl, ?_, fun k hk hne => ?_⟩, .inl rfl⟩
    · rw [Array.getElem?_setIfInBounds]
      by_cases hj : j = n
      · subst hj
        rw [List.getElem?_append_right (by omega), a1, Nat.sub_self] at hx
        simp at hx
        subst hx
        rw [if_pos rfl, if_pos (by omega)]
      · rw [if_neg (by omega)]
        refine hc j x ?_
        rw [List.getElem?_append_left] at hx
        · exact hx
        · have := (List.getElem?_eq_some_iff.1 hx).1
          rw [hlen] at this
          omega
    · show w.heap.size ≤ (w.setCell ⟨g, o + n, none⟩ (.int .i64 v)).heap.size
      exact ((Ex.refl (fun i => i = g) w).setCell ⟨g, o + n, none⟩ (.inr rfl) (.int .i64 v)).size
    · show (w.setCell ⟨g, o + n, none⟩ (.int .i64 v)).heap[k]? = _
      exact ((Ex.refl (fun i => i = g) w).setCell ⟨g, o + n, none⟩ (.inr rfl) (.int .i64 v)).block k hk (fun e => hne (by subst e; rfl))
  · have hrun := run_append_grow (P := Try.prog) w 22 ty 3 i (.int .i64 0) intTk.und hi hz0 ⟨g, o, none⟩ n c (l.map (Value.int .i64)) (by rw [List.length_map, a1, hz1, Nat.mul_one]) (fun j u hu => by
        rw [List.getElem?_map] at hu
        obtain ⟨x, hx, rfl⟩ := Option.map_eq_some_iff.1 hu
        rw [add_plain, cell_of_row _ _ _ _ _ _ hh]
        exact hc j x hx) ⟨b2, 0, none⟩ 1 1 [.int .i64 v] (by simp [hz1]) hnews (by omega) (by omega)
      (growslice_fits (by omega) (by rw [hz2]; omega))
    have hge := grownCap_ge w (n + 1) c 3
    have hcm : grownCap w (n + 1) c 3 ≤ maxLen := grownCap_le_maxLen w (n + 1) c 3 (by unfold maxLen; omega)
    refine ⟨_, _, _, hrun, ⟨hlen, hwf, hge, hcm, w.heap.size, 0, _, rfl, Nat.le_trans hb (Nat.le_of_lt (lt_blk hh)), heap_alloc_new w.drew _, ?_, fun j x hx => ?_⟩, ⟨rfl, rfl, rfl, by simp, fun k hk _ => heap_alloc_old w.drew _ hk⟩, .inr rfl⟩
    · simp only [Array.size_append, List.size_toArray, size_zeroCells, List.length_map, a1, List.length_cons, List.length_nil, Value.cells]
      simp
      omega
    · have hj : j < n + 1 := by rw [← hlen]; exact (List.getElem?_eq_some_iff.1 hx).1
      rw [Nat.zero_add, Array.getElem?_append_left (by simp [a1]; omega), List.append_toArray, List.getElem?_toArray]
      show (l.map (Value.int .i64) ++ [v].map (Value.int .i64))[j]? = _
      rw [← List.map_append, List.getElem?_map, hx]
      rfl
end
theorem wpList_app_runO {P : Program} {S : TypeId} {w w' : World} {ops : Array Oper} {rest : List Oper} {o : Oper} {a : Act} {Q : Exit → Act → World → Prop} (hgd : o.guard = none) (s x : Operand)
    (ho : o.op = .call { callee := .builtin .append, args := #[s, x], argTypes := #[S, S] }) {v1 v2 v : Value} (hs : a.eval s = v1) (hx : a.eval x = v2) (hrun : (Builtin.append_ #[S, S] o.type #[v1, v2]).run P w = .ok v w') (h : wpList P ops Q rest (a.put o.dst v) w') :
    wpList P ops Q (o :: rest) a w := by
  refine wpList_plain hgd fun K hK' => ?_
  unfold Oper.wp execOp
  simp only [ho, resolve, invoke, builtin, Sem.run_bind, Sem.run_pure, Result.andThen_ok, List.map_toArray, List.map_cons, List.map_nil, hs, hx, hrun]
  exact hK' _ _ h
end Go.Proofs.Ytmeplpiamkaniaa
namespace Go.Proofs.Ytmeplpiamkaniaa
set_option linter.unusedVariables false
set_option linter.unusedSimpArgs false
open Go.RowKit
structure LdN (w wr : World) (A5 : Option Addr) (n5 c5 : Nat) (out : List Int) (A6 : Option Addr) (n6 c6 : Nat) (rest : List Int) (A8 : Option Addr) (n8 c8 : Nat) (nx : List Int) : Prop where
  o5 : Own .i64 3 wr w.heap.size A5 n5 c5 out
  o6 : OwnO wr w.heap.size A6 n6 c6 rest
  o8 : Own .i64 3 wr w.heap.size A8 n8 c8 nx
  a56 : ∀ b, ob A5 = some b → ob A6 ≠ some b
  a58 : ∀ b, ob A8 = some b → ob A5 ≠ some b
  a68 : ∀ b, ob A8 = some b → ob A6 ≠ some b
  e : E w wr
section
variable {w wr V : World} {A5 : Option Addr} {n5 c5 : Nat} {out : List Int} {A6 : Option Addr} {n6 c6 : Nat} {rest : List Int} {A8 : Option Addr} {n8 c8 : Nat} {nx : List Int}
theorem LdN.e_ (h : LdN w wr A5 n5 c5 out A6 n6 c6 rest A8 n8 c8 nx) (hE : E wr V) : LdN w V A5 n5 c5 out A6 n6 c6 rest A8 n8 c8 nx :=
  ⟨h.o5.e hE, h.o6.e hE, h.o8.e hE, h.a56, h.a58, h.a68, h.e.trans hE⟩
theorem LdN.push5 (h : LdN w wr A5 n5 c5 out A6 n6 c6 rest A8 n8 c8 nx) (hE : E wr V) (b2 : Nat) {x : Int} (hb2 : V.cell? ⟨b2, 0, none⟩ = some (.int .i64 x)) (hx : (Lit.int .i64 x).wf = true) (hn : n5 ≤ 1000000) (ty : TypeId) :
    ∃ A' c' V1, (Builtin.append_ #[22, 22] ty #[.slice A5 n5 c5, .slice (some ⟨b2, 0, none⟩) 1 1]).run Try.prog V = .ok (.slice A' (n5 + 1) c') V1 ∧ LdN w V1 A' (n5 + 1) c' (out ++ [x]) A6 n6 c6 rest A8 n8 c8 nx := by
  have h' := h.e_ hE
  have hN : Nums .i64 V (some ⟨b2, 0, none⟩) 1 1 [x] := ⟨rfl, Nat.le_refl _, by unfold maxLen; omega, by intro y hy; simp at hy; subst hy; exact hx, fun _ => ⟨b2, 0, rfl, World.block_lt_of_cell? V _ hb2, fun i hi => by
    have : i = 0 := by simpa using hi
    subst this; exact hb2⟩⟩
  obtain ⟨A', c', V1, hrun, hO, hG, hor⟩ := run_appN intTk V ty w.heap.size A5 n5 c5 out h'.o5 _ 1 1 [x] hN (by omega) h'.e.le
  rw [ob_eq] at hG
  rw [ob_eq, ob_eq] at hor
  have hX : Ex (fun j => ob A5 = some j) V V1 := (Ex.refl _ V).grown hG (fun k hk => .inr hk)
  have hnew : ∀ b, ob A' = some b → ob A5 = some b ∨ b = V.heap.size := fun b hb => by
    rcases hor with h2 | h2
    · exact .inl (by rw [← h2]; exact hb)
    · rw [h2] at hb; injection hb with hb; exact .inr hb.symm
  refine ⟨A', c', V1, hrun, hO, h'.o6.ex hX (fun b hb e => h'.a56 b e hb), h'.o8.ex hX (fun b hb e => h'.a58 b hb e), fun b hb hb6 => ?_, fun b hb hb5 => ?_, h'.a68, h'.e.grown hG (fun k hk => (h'.o5.ltN k hk).1)⟩
  · rcases hnew b hb with e | e
    · exact h'.a56 b e hb6
    · have := (h'.o6.ltN b hb6).2; omega
  · rcases hnew b hb5 with e | e
    · exact h'.a58 b hb e
    · have := (h'.o8.ltN b hb).2; omega
theorem LdN.push6 (h : LdN w wr A5 n5 c5 out A6 n6 c6 rest A8 n8 c8 nx) (hE : E wr V) (b2 : Nat) {x : Int} (hb2 : V.cell? ⟨b2, 0, none⟩ = some (.int .i64 x)) (hx : (Lit.int .i64 x).wf = true) (hn : n6 ≤ 1000000) (ty : TypeId) :
    ∃ A' c' V1, (Builtin.append_ #[22, 22] ty #[.slice A6 n6 c6, .slice (some ⟨b2, 0, none⟩) 1 1]).run Try.prog V = .ok (.slice A' (n6 + 1) c') V1 ∧ LdN w V1 A5 n5 c5 out A' (n6 + 1) c' (rest ++ [x]) A8 n8 c8 nx := by
  have h' := h.e_ hE
  obtain ⟨A', c', V1, hrun, hO, hG, hor⟩ := run_appO V ty w.heap.size A6 n6 c6 rest h'.o6 b2 x hb2 hx hn
  have hX : Ex (fun j => ob A6 = some j) V V1 := (Ex.refl _ V).grown hG (fun k hk => .inr hk)
  have hnew : ∀ b, ob A' = some b → ob A6 = some b ∨ b = V.heap.size := fun b hb => by
    rcases hor with h2 | h2
    · exact .inl (by rw [← h2]; exact hb)
    · rw [h2] at hb; injection hb with hb; exact .inr hb.symm
  refine ⟨A', c', V1, hrun, h'.o5.ex hX (fun b hb e => h'.a56 b hb e), hO, h'.o8.ex hX (fun b hb e => h'.a68 b hb e), fun b hb hb6 => ?_, h'.a58, fun b hb hb6 => ?_, h'.e.grown hG (fun k hk => (h'.o6.ltN k hk).1)⟩
  · rcases hnew b hb6 with e | e
    · exact h'.a56 b hb e
    · have := (h'.o5.ltN b hb).2; omega
  · rcases hnew b hb6 with e | e
    · exact h'.a68 b hb e
    · have := (h'.o8.ltN b hb).2; omega
end
def slN : Value → Nat
  | .slice _ n _ => n
  | _ => 0
def RetLeads (w : World) (fs : List Fl) (i : Int) (e : Ending) (w' : World) : Prop := ∃ out, out.Nodup ∧ (∀ j, j ∈ out ↔ Lead1 fs i j) ∧ out.length ≤ fs.length ∧ RetOwn .i64 3 w out e w'
set_option linter.unusedSimpArgs false in
set_option maxHeartbeats 8000000 in
set_option maxRecDepth 100000 in
theorem leads_c (A : Option Addr) (n c : Nat) (fs : List Fl) (i : Int) (w : World) (h : FlowsAt w A n c fs) (hr : ∀ f ∈ fs, ∀ j ∈ refsF f, ∃ q, getF fs j = some q) (hi : ∃ q, getF fs i = some q) (hw : (Lit.int .i64 i).wf = true) (hn : n ≤ 1000) (hz : ∀ f ∈ fs, f.parts.length ≤ 100000 ∧ f.made.length ≤ 100000) :
    Calls Try.prog 71 #[.slice A n c, .int .i64 i] w (RetLeads w fs i) := by
  have HH := Lib.hid h
  have HR := Lib.hid hr
  have HI := Lib.hid hi
  have HZ := Lib.hid hz
  have HL := Lib.hid h.len
  have HW := Lib.hid hw
  have hn63 := h.n63
  have HO1 := Lib.hid (OwnO.one w hw)
  have HE1 := Lib.hid ((E.refl w).alloc (.cells #[.int .i64 i] 3))
  clear h hr hi hz
  go_enter Try.func71, Try.ntmps71
  obtain ⟨w1, hw1⟩ : ∃ w1, w.alloc (.cells #[.int .i64 i] 3) = w1 := ⟨_, rfl⟩
  rw [hw1] at HO1 HE1
  go_upto_region 3 with fail
  try rw [hw1]
  clear hw1
  go_loopw [5, 6] (fun t5 t6 wr => ∃ (A5 : Option Addr) (n5 c5 : Nat) (out : List Int) (A6 : Option Addr) (n6 c6 : Nat) (rest : List Int), t5 = .slice A5 n5 c5 ∧ t6 = .slice A6 n6 c6 ∧ Own .i64 3 wr w.heap.size A5 n5 c5 out ∧ OwnO wr w.heap.size A6 n6 c6 rest ∧ Hid (∀ b, ob A5 = some b → ob A6 ≠ some b) ∧ Hid (LdSt fs i out rest) ∧ Hid (2 * (n - n5) + n6 ≤ 2 * n + 1) ∧ E w wr) (fun t5 t6 _ => 2 * (n - slN t5) + slN t6)
  case atStart => exact ⟨none, 0, 0, [], _, 1, 1, [i], rfl, rfl, Own.nil _ _ _ _, HO1.out, fun b hb => (by cases hb), LdSt.start fs i, (show 2 * (n - 0) + 1 ≤ 2 * n + 1 by omega), HE1.out⟩
  case round =>
    obtain ⟨A5, n5, c5, out, A6, n6, c6, rest, rfl, rfl, hO5, hO6, hap, hst, hms, hE⟩ := hrel
    have HMS := Lib.hid hms.out
    clear hms
    cases rest with
    | nil =>
      have hn6 : n6 = 0 := hO6.1.symm
      subst hn6
      have HF := Lib.hid (And.intro hst.out.nd (And.intro (hst.out.done) (show out.length ≤ fs.length from hst.out.len HR.out)))
      have HO5 := Lib.hid hO5
      have HE := Lib.hid hE
      clear hO6 hst hap hO5 hE
      go_wp2_with fail
      go_ret
      exact ⟨out, HF.out.1, HF.out.2.1, HF.out.2.2, _, _, _, rfl, HO5.out, HE.out⟩
    | cons a rest =>
      obtain ⟨g, o, hA6, hgl, hgb, hn1, hnc, hcm, hc0, hwa, hP1, hP0⟩ := hO6.pop
      have hn6I : (0 : Int) < (n6 : Int) := by omega
      have ha : ∃ q, getF fs a = some q := by
        rcases hst.out.gr a List.mem_cons_self with e | e
        · rw [e]; exact HI.out
        · exact (hst.out.snd a e).get HR.out
      obtain ⟨f, hf⟩ := ha
      obtain ⟨k, hk⟩ := pos_some hf
      obtain ⟨f', hfk, hf', hida⟩ := posF_some hk
      clear hida
      rw [hf] at hf'
      injection hf' with hf'
      subst hf'
      have hkn : k < n := by rw [← HL.out]; exact (List.getElem?_eq_some_iff.1 hfk).1
      have hFI : findI fs a = (k : Int) := by rw [findI, hk]
      have HFC := Lib.hid (find_c A n c fs a wr (HH.out.e hE))
      rw [hFI] at HFC
      have HIN := Lib.hid (hst.out.into hf)
      have HP := Lib.hid (And.intro hP1 hP0)
      have HST := Lib.hid hst.out
      have HFM := Lib.hid (List.mem_of_getElem? hfk)
      have HFK := Lib.hid hfk
      have HNL := Lib.hid (show out.length ≤ fs.length from hst.out.len HR.out)
      have HO5 := Lib.hid hO5
      have HAP := Lib.hid hap.out
      have HE := Lib.hid hE
      have HKN := Lib.hid hkn
      have HN6 := Lib.hid (And.intro hn1 hnc)
      have HR6 := Lib.hid (show rest.length = n6 - 1 from hP1.1)
      have hkI : (k : Int) < (n : Int) := by omega
      subst hA6
      have h6a : (1 : Int) ≤ (n6 : Int) := by omega
      have h6b : (n6 : Int) ≤ (c6 : Int) := by omega
      clear hO6 hst hap hO5 hE hP1 hP0 hf hk hfk hFI hkn
      obtain ⟨b, o2, f2, s, t, hAe, hb, hf2, hwf, hcf, hB⟩ := (HH.out.e HE.out).get HKN.out
      have hff := HFK.out
      rw [hf2] at hff
      injection hff with hff
      subst hff
      have hz1 := HZ.out f2 HFM.out
      have hl1 := hB.1.len
      have hl2 := hB.2.len
      have HRF := Lib.hid (refers_c f2 s.1 s.2.1 s.2.2 t.1 t.2.1 t.2.2 wr hB (by omega) (by omega))
      have hrl : (refsF f2).length ≤ 200000 := by unfold refsF; rw [List.length_append, List.length_map]; omega
      have HRL := Lib.hid hrl
      have HCF := Lib.hid hcf
      unfold flV at HRF
      subst hAe
      clear hf2 hwf hB hz1 hl1 hl2 hrl hcf hb
      go_upto_region 5 with (go_at_call 60; refine HFC.out.mono ?_; rintro e wy ⟨rfl, rfl⟩)
      go_cut [6] (fun t6 wx => wr = wx ∧ ∃ (A6 : Option Addr) (c7 : Nat), t6 = .slice A6 (n6 - 1) c7 ∧ (∀ b, ob A6 = some b → b = g) ∧ OwnO wr w.heap.size A6 (n6 - 1) c7 rest)
      case first =>
        by_cases h1 : c6 = 1
        · have hn1' : n6 = 1 := by omega
          have HP0 := Lib.hid (HP.out.2 h1)
          subst h1
          subst hn1'
          go_wp2_with fail
          go_meet
          exact ⟨rfl, _, _, rfl, fun b hb => by injection hb with hb; exact hb.symm, HP0.out⟩
        · have hc1 : ¬ ((c6 : Int) = 1) := by omega
          go_wp2_with fail
          go_meet
          exact ⟨rfl, _, _, rfl, fun b hb => by injection hb with hb; exact hb.symm, HP.out.1⟩
      case rest =>
        obtain ⟨rfl, A7, c7, rfl, hA7, hO7⟩ := hcut
        have hcf := HCF.out
        unfold FlCells at hcf
        obtain ⟨q0, q1, q2, q3, q4, q5, q6, q7, q8, q9, q10⟩ := hcf
        have HO7 := Lib.hid hO7
        have HA7 := Lib.hid hA7
        have HNW := Lib.hid (show ∀ b, ob A5 = some b → ob A7 ≠ some b from fun b hb hb7 => by
          have h1 := HA7.out b hb7
          exact HAP.out b hb (by rw [h1]; rfl))
        clear hO7 hA7
        go_upto_region 7 with (go_at_call 97; refine HRF.out.mono ?_; rintro e w8 ⟨A8, n8, c8, rfl, hO8, hE8⟩)
        clear q0 q1 q2 q3 q4 q5 q6 q7 q8 q9 q10
        have HLN := Lib.hid (show LdN w w8 A5 n5 c5 out A7 (n6 - 1) c7 rest A8 n8 c8 (refsF f2) from ⟨HO5.out.e hE8, HO7.out.e hE8, hO8.rebase HE.out.le, HNW.out, fun b hb e => by have := (hO8.ltN b hb).1; have := (HO5.out.ltN b e).2; omega, fun b hb e => by have := (hO8.ltN b hb).1; have := (HO7.out.ltN b e).2; omega, HE.out.trans hE8⟩)
        have h8n := hO8.1
        have HM0 := Lib.hid (show 2 * (n - (n5 : Nat)) + (n6 - 1) + 1 ≤ 2 * (n - slN (Value.slice A5 n5 c5)) + slN (Value.slice (some ⟨g, o, none⟩) n6 c6) from by have := HN6.out.1; simp only [slN]; omega)
        have h8x : n8 ≤ 9223372036854775807 := by have := HRL.out; omega
        have HN8 := Lib.hid h8n
        clear hO8 hE8 h8n
        go_upto_region 8 with fail
        obtain ⟨wo, hwo⟩ : ∃ wo, wo = w8 := ⟨_, rfl⟩
        subst hwo
        go_loopw [5, 6, 9] (fun t5 t6 t9 wq => ∃ (A5 : Option Addr) (n5' c5 : Nat) (out' : List Int) (A6 : Option Addr) (n6' c6 : Nat) (rest' : List Int) (m : Nat), t5 = .slice A5 n5' c5 ∧ t6 = .slice A6 n6' c6 ∧ t9 = .int .i64 m ∧ m ≤ n8 ∧ LdN w wq A5 n5' c5 out' A6 n6' c6 rest' A8 n8 c8 (refsF f2) ∧ Hid (LdIn fs i a f2 m out' rest') ∧ Hid (2 * (n - n5') + n6' ≤ 2 * (n - n5) + (n6 - 1))) (fun _ _ t9 _ => n8 - (intOf t9).toNat)
        case atStart => exact ⟨A5, n5, c5, out, A7, n6 - 1, c7, rest, 0, rfl, rfl, rfl, Nat.zero_le _, HLN.out, HIN.out, Nat.le_refl _⟩
        case round =>
          obtain ⟨B5, k5, d5, out', B6, k6, d6, rest', m, rfl, rfl, rfl, hm, hL, hin, hme⟩ := hrel
          by_cases hlt : m < n8
          · obtain ⟨b8, o8, y, hA8, hb8, hy, hwy, hcy⟩ := hL.o8.reads.get hlt
            have hmI : (m : Int) < (n8 : Int) := by omega
            subst hA8
            have HHC := Lib.hid (has_c B5 k5 d5 out' y wr hL.o5.reads)
            have HLL := Lib.hid hL
            have HMM := Lib.hid hme.out
            have HII := Lib.hid hin.out
            have HY := Lib.hid hy
            have hol := hin.out.len HR.out
            have HOL := Lib.hid (show k5 ≤ 1000 from by have := hL.o5.1; have := HL.out; omega)
            have HO5L := Lib.hid (show out'.length = k5 from hL.o5.1)
            obtain ⟨bv, hbv⟩ : ∃ bv, out'.contains y = bv := ⟨_, rfl⟩
            rw [hbv] at HHC
            have HBV := Lib.hid hbv
            clear hL hme hin hy hbv hol
            cases bv
            · -- a new one
              obtain ⟨V, hV⟩ : ∃ V, wr.alloc (.cells #[.int .i64 y] 3) = V := ⟨_, rfl⟩
              have hEV : E wr V := by rw [← hV]; exact (E.refl wr).alloc _
              have hVc : V.cell? ⟨wr.heap.size, 0, none⟩ = some (.int .i64 y) := by rw [← hV]; exact cell_new _ _ _
              obtain ⟨A', c', V1, hrun, hLN⟩ := HLL.out.push5 hEV wr.heap.size hVc hwy (by have := HOL.out; omega) 22
              obtain ⟨U, hU⟩ : ∃ U, V1.alloc (.cells #[.int .i64 y] 3) = U := ⟨_, rfl⟩
              have hEU : E V1 U := by rw [← hU]; exact (E.refl V1).alloc _
              have hUc : U.cell? ⟨V1.heap.size, 0, none⟩ = some (.int .i64 y) := by rw [← hU]; exact cell_new _ _ _
              obtain ⟨A2, c2, V2, hrun2, hLN2⟩ := hLN.push6 hEU V1.heap.size hUc hwy (by have := HMM.out; have := HN6.out; have := HMS.out; omega) 22
              obtain ⟨_, _, y2, e2, _, hy2, _, hcy2⟩ := hLN.o8.reads.get hlt
              injection e2 with e2
              injection e2 with e21 e22
              subst e21 e22
              rw [HY.out] at hy2
              injection hy2 with hy2
              subst hy2
              have HLN2 := Lib.hid hLN2
              have HIN2 := Lib.hid (HII.out.new HY.out (by have := HBV.out; rwa [List.contains_eq_mem, decide_eq_false_iff_not] at this))
              have hol2 := HIN2.out.len HR.out
              have HM2 := Lib.hid (show 2 * (n - (k5 + 1)) + (k6 + 1) ≤ 2 * (n - n5) + (n6 - 1) from by
                have h1 := HMM.out
                have h2 := HO5L.out
                have h3 := HL.out
                rw [List.length_append, List.length_singleton] at hol2
                omega)
              clear hLN2 hLN hEV hEU hVc hUc hol2
              go_wp2_with (first
                | (go_at_call 70; refine HHC.out.mono ?_; rintro e wy ⟨rfl, rfl⟩)
                | (at_builtin; (try rw [hU]); refine wpList_app_runO rfl _ _ rfl rfl rfl hrun2 ?_)
                | (at_builtin; (try rw [hV]); refine wpList_app_runO rfl _ _ rfl rfl rfl hrun ?_))
              go_roundw
              case rel => exact ⟨_, _, _, _, _, _, _, _, m + 1, rfl, rfl, by go_num, by omega, HLN2.out, HIN2.out, HM2.out⟩
              case measure => simp [intOf]; omega
            · have HIN2 := Lib.hid (HII.out.old HY.out (by have := HBV.out; rwa [List.contains_eq_mem, decide_eq_true_eq] at this))
              go_wp2_with (go_at_call 70; refine HHC.out.mono ?_; rintro e wy ⟨rfl, rfl⟩)
              go_roundw
              case rel => exact ⟨_, _, _, _, _, _, _, _, m + 1, rfl, rfl, by go_num, by omega, HLL.out, HIN2.out, HMM.out⟩
              case measure => simp [intOf]; omega
          · have hmn : m = (refsF f2).length := by have := HN8.out; omega
            have hin2 := hin.out
            rw [hmn] at hin2
            have HST2 := Lib.hid hin2.out_
            have HLL := Lib.hid hL
            have HMM := Lib.hid hme.out
            clear hmn hin2 hL hme hin
            go_wp2_with fail
            go_roundw
            case rel => exact ⟨_, _, _, _, _, _, _, _, rfl, rfl, HLL.out.o5, HLL.out.o6, HLL.out.a56, HST2.out, (by have h1 := HMM.out; have h2 := HMS.out; have h3 := HN6.out; show _ ≤ _; omega), HLL.out.e⟩
            case measure =>
              have h1 := HMM.out
              have h2 := HM0.out
              simp only [slN] at h2 ⊢
              omega
end Go.Proofs.Ytmeplpiamkaniaa
namespace Go.Proofs.Ytmeplpiamkaniaa
set_option linter.unusedVariables false
set_option linter.unusedSimpArgs false
open Go.RowKit
set_option linter.unusedSimpArgs false in
set_option maxHeartbeats 2000000 in
set_option maxRecDepth 100000 in
theorem links_c (A : Option Addr) (n c : Nat) (fs : List Fl) (f : Fl) (s t : Sl) (w : World) (h : FlowsAt w A n c fs) (hb : FlB w f s t) (hpp : ∀ x ∈ f.parts, possB x = true) :
    Calls Try.prog 69 #[.slice A n c, flV f s.1 s.2.1 s.2.2 t.1 t.2.1 t.2.2] w (fun e w' => e = .returned (.int .i64 (linkE fs f)) ∧ E w w') := by
  obtain ⟨w1, hw1⟩ : ∃ w1, w.alloc (.cells #[.int .i64 f.id, .int .i64 f.step, .int .i64 f.kind, .int .i64 f.tick, .int .i64 f.actor, .int .i64 f.frm, .int .i64 f.to, .int .i64 f.item, .int .i64 f.n, .slice s.1 s.2.1 s.2.2, .slice t.1 t.2.1 t.2.2] 47) = w1 := ⟨_, rfl⟩
  have hE1 : E w w1 := by rw [← hw1]; exact (E.refl w).alloc _
  have hbx : FlBox w1 w.heap.size f s t := by rw [← hw1]; exact FlBox.new w f s t
  have HBX := Lib.hid hbx
  have h1 := hb.1.e hE1
  have h2 := hb.2.e hE1
  have hA := h.e hE1
  have hm := h1.n63
  have hm2 := h2.n63
  have hm3 := h.n63
  have HL1 := Lib.hid h1.len
  have HL2 := Lib.hid h2.len
  have HL3 := Lib.hid h.len
  have HF := Lib.hid (show linkE fs f = firstE (f.parts.map (partE fs f) ++ f.made.map (madeE fs)) from rfl)
  have HPP := Lib.hid hpp
  have HFI := Lib.hid (fun W i (hE : E w1 W) => find_c A n c fs i W (hA.e hE))
  generalize linkE fs f = res at *
  clear hpp h hb hbx
  unfold flV
  go_enter Try.func69, Try.ntmps69
  go_upto_region 2 with fail
  try rw [hw1]
  clear hw1
  go_loopw [5] (fun ti wr => ∃ k : Nat, k ≤ s.2.1 ∧ ti = .int .i64 k ∧ E w1 wr ∧ Hid (firstE ((f.parts.take k).map (partE fs f)) = 0)) (fun ti _ => s.2.1 - (intOf ti).toNat)
  case atStart => exact ⟨0, Nat.zero_le _, rfl, E.refl _, show _ = _ by rw [List.take_zero]; rfl⟩
  case round =>
    obtain ⟨k, hk, rfl, hE, hz⟩ := hrel
    have hbc := (HBX.out.e hE).cells
    unfold FlCells at hbc
    simp only [Nat.zero_add] at hbc
    obtain ⟨_, _, _, _, _, _, _, f7, _, c9, c10⟩ := hbc
    by_cases hlt : k < s.2.1
    · obtain ⟨b, o, x, hsA, hbb, hx, hwx, d0, d1, d2⟩ := (h1.e hE).get hlt
      have hkI : (k : Int) < (s.2.1 : Int) := by omega
      rw [hsA] at c9
      have HE2 := Lib.hid hE
      have HFX := Lib.hid (HFI.out wr x.1 hE)
      cases hp : posF fs x.1 with
      | none =>
        have hfi : findI fs x.1 = -1 := by rw [findI, hp]
        rw [hfi] at HFX
        have HR := Lib.hid (show res = 7 by
          have he : partE fs f x = 7 := by rw [partE, posF_none.1 hp]
          rw [HF.out, firstE_at (l := f.parts.map (partE fs f)) (k := k) (by rw [← List.map_take]; exact hz.out) (by rw [List.getElem?_map, hx]; rfl) (by rw [he]; decide), he])
        clear hx hp hz hfi hsA hE
        go_upto_region 5 with (go_at_call 60; refine HFX.out.mono ?_; rintro e wy ⟨rfl, rfl⟩)
        go_wp2_with fail
        go_ret
        exact ⟨ret_int HR.out.symm, hE1.trans HE2.out⟩
      | some j =>
        have hfi : findI fs x.1 = (j : Int) := by rw [findI, hp]
        rw [hfi] at HFX
        obtain ⟨q0, hq0, _, _⟩ := posF_some hp
        have hjn : j < n := by rw [← HL3.out]; exact (List.getElem?_eq_some_iff.1 hq0).1
        obtain ⟨b3, o3, q, s3, t3, hAe, hb3, hq, hwq, hcq, _⟩ := (hA.e hE).get hjn
        have hgq := pos_get hp hq
        have hjI : (j : Int) < (n : Int) := by omega
        have hj0 : (0 : Int) ≤ (j : Int) := by omega
        have hj1 : decide ((j : Int) < 0) = false := by simp
        have hpx := possB_iff.1 (HPP.out x (List.mem_of_getElem? hx))
        have hwr1 : IntKind.i64.wrap (x.2.1 + x.2.2) = x.2.1 + x.2.2 := by rw [IntKind.wrap_i64]; omega
        rw [hAe]
        rw [hAe] at HFX
        unfold FlCells at hcq
        obtain ⟨_, _, _, _, _, _, _, q7, q8, _, _⟩ := hcq
        have HPE := Lib.hid (show partE fs f x = if q.n < x.2.1 + x.2.2 then 5 else if q.item = f.item then 0 else 9 by rw [partE, hgq])
        have HXK := Lib.hid (show (f.parts.map (partE fs f))[k]? = some (partE fs f x) by rw [List.getElem?_map, hx]; rfl)
        have HZ := Lib.hid (show firstE ((f.parts.map (partE fs f)).take k) = 0 by rw [← List.map_take]; exact hz.out)
        clear hx hp hq hq0 hz hgq hpx hfi hsA hE
        by_cases h5 : q.n < x.2.1 + x.2.2
        · have d5 : decide (q.n < x.2.1 + x.2.2) = true := by simpa using h5
          have HR := Lib.hid (show res = 5 by
            have he : partE fs f x = 5 := by rw [HPE.out, if_pos h5]
            rw [HF.out, firstE_at HZ.out HXK.out (by rw [he]; decide), he])
          clear h5
          go_upto_region 5 with (go_at_call 60; refine HFX.out.mono ?_; rintro e wy ⟨rfl, rfl⟩)
          go_upto_region 7 with fail
          (refine wp_region_quiet_lit (by kernel_rfl) (by kernel_rfl) ?_; (repeat (first | ((with_reducible refine wpQuiet_step (fun K hK => ?_)); go_simp; (with_reducible refine hK _ ?_); clear hK K) | ((with_reducible refine wpQuiet_off (by kernel_rfl) (fun K hK => ?_)); go_simp; (with_reducible refine hK _ ?_); clear hK K))); (with_reducible refine wpQuiet_nil ?_); intro _ hw'; obtain ⟨nq, hw''⟩ := hw'; subst hw'')
          go_wp2_with fail
          go_ret
          exact ⟨ret_int HR.out.symm, (hE1.trans HE2.out).drewN _⟩
        · have d5 : decide (q.n < x.2.1 + x.2.2) = false := by simpa using h5
          by_cases h9 : q.item = f.item
          · have d9 : (q.item != f.item) = false := by simpa using h9
            have HS := Lib.hid (show firstE ((f.parts.take (k + 1)).map (partE fs f)) = 0 by
              rw [List.map_take]
              exact firstE_step HZ.out HXK.out (by rw [HPE.out, if_neg h5, if_pos h9]))
            clear h5 h9
            go_upto_region 5 with (go_at_call 60; refine HFX.out.mono ?_; rintro e wy ⟨rfl, rfl⟩)
            go_upto_region 7 with fail
            (refine wp_region_quiet_lit (by kernel_rfl) (by kernel_rfl) ?_; (repeat (first | ((with_reducible refine wpQuiet_step (fun K hK => ?_)); go_simp; (with_reducible refine hK _ ?_); clear hK K) | ((with_reducible refine wpQuiet_off (by kernel_rfl) (fun K hK => ?_)); go_simp; (with_reducible refine hK _ ?_); clear hK K))); (with_reducible refine wpQuiet_nil ?_); intro _ hw'; obtain ⟨nq, hw''⟩ := hw'; subst hw'')
            go_upto_region 9 with fail
            (refine wp_region_quiet_lit (by kernel_rfl) (by kernel_rfl) ?_; (repeat (first | ((with_reducible refine wpQuiet_step (fun K hK => ?_)); go_simp; (with_reducible refine hK _ ?_); clear hK K) | ((with_reducible refine wpQuiet_off (by kernel_rfl) (fun K hK => ?_)); go_simp; (with_reducible refine hK _ ?_); clear hK K))); (with_reducible refine wpQuiet_nil ?_); intro _ hw'; obtain ⟨nq, hw''⟩ := hw'; subst hw'')
            go_wp2_with fail
            go_roundw
            case rel => exact ⟨k + 1, by omega, by go_num, HE2.out.drewN _, HS⟩
            case measure => simp [intOf]; omega
          · have d9 : (q.item != f.item) = true := by simpa using h9
            have HR := Lib.hid (show res = 9 by
              have he : partE fs f x = 9 := by rw [HPE.out, if_neg h5, if_neg h9]
              rw [HF.out, firstE_at HZ.out HXK.out (by rw [he]; decide), he])
            clear h5 h9
            go_upto_region 5 with (go_at_call 60; refine HFX.out.mono ?_; rintro e wy ⟨rfl, rfl⟩)
            go_upto_region 7 with fail
            (refine wp_region_quiet_lit (by kernel_rfl) (by kernel_rfl) ?_; (repeat (first | ((with_reducible refine wpQuiet_step (fun K hK => ?_)); go_simp; (with_reducible refine hK _ ?_); clear hK K) | ((with_reducible refine wpQuiet_off (by kernel_rfl) (fun K hK => ?_)); go_simp; (with_reducible refine hK _ ?_); clear hK K))); (with_reducible refine wpQuiet_nil ?_); intro _ hw'; obtain ⟨nq, hw''⟩ := hw'; subst hw'')
            go_upto_region 9 with fail
            (refine wp_region_quiet_lit (by kernel_rfl) (by kernel_rfl) ?_; (repeat (first | ((with_reducible refine wpQuiet_step (fun K hK => ?_)); go_simp; (with_reducible refine hK _ ?_); clear hK K) | ((with_reducible refine wpQuiet_off (by kernel_rfl) (fun K hK => ?_)); go_simp; (with_reducible refine hK _ ?_); clear hK K))); (with_reducible refine wpQuiet_nil ?_); intro _ hw'; obtain ⟨nq, hw''⟩ := hw'; subst hw'')
            go_wp2_with fail
            go_ret
            exact ⟨ret_int HR.out.symm, ((hE1.trans HE2.out).drewN _).drewN _⟩
    · have HZ := Lib.hid (show firstE (f.parts.map (partE fs f)) = 0 by
        have := hz.out
        rwa [List.take_of_length_le (by have := HL1.out; omega)] at this)
      have HE2 := Lib.hid hE
      clear hz hE
      go_wp2_with fail
      clear c9 c10 f7
      go_loopw [7] (fun ti wq => ∃ k : Nat, k ≤ t.2.1 ∧ ti = .int .i64 k ∧ E w1 wq ∧ Hid (firstE ((f.made.take k).map (madeE fs)) = 0)) (fun ti _ => t.2.1 - (intOf ti).toNat)
      case atStart => exact ⟨0, Nat.zero_le _, rfl, HE2.out, show _ = _ by rw [List.take_zero]; rfl⟩
      case round =>
        clear HE2 hk hlt
        obtain ⟨k2, hk, rfl, hE, hz⟩ := hrel
        have hbc := (HBX.out.e hE).cells
        unfold FlCells at hbc
        simp only [Nat.zero_add] at hbc
        obtain ⟨_, _, _, _, _, _, _, _, _, _, c10⟩ := hbc
        by_cases hlt : k2 < t.2.1
        · obtain ⟨b, o, x, hsA, hbb, hx, hwx, d0⟩ := (h2.e hE).get hlt
          have hkI : (k2 : Int) < (t.2.1 : Int) := by omega
          rw [hsA] at c10
          have HE2 := Lib.hid hE
          have HFX := Lib.hid (HFI.out wr x hE)
          cases hp : posF fs x with
          | none =>
            have hfi : findI fs x = -1 := by rw [findI, hp]
            rw [hfi] at HFX
            have HR := Lib.hid (show res = 7 by
              have he : madeE fs x = 7 := by rw [madeE, posF_none.1 hp]; rfl
              rw [HF.out, firstE_app, if_pos HZ.out]
              have := firstE_at (l := f.made.map (madeE fs)) (m := []) (k := k2) (by rw [← List.map_take]; exact hz.out) (by rw [List.getElem?_map, hx]; rfl) (by rw [he]; decide)
              rw [List.append_nil] at this
              rw [this, he])
            clear hx hp hz hfi hsA hE
            go_wp2_with (go_at_call 60; refine HFX.out.mono ?_; rintro e wy ⟨rfl, rfl⟩)
            go_ret
            exact ⟨ret_int HR.out.symm, hE1.trans HE2.out⟩
          | some j =>
            have hfi : findI fs x = (j : Int) := by rw [findI, hp]
            rw [hfi] at HFX
            have hj0 : (0 : Int) ≤ (j : Int) := by omega
            have HS := Lib.hid (show firstE ((f.made.take (k2 + 1)).map (madeE fs)) = 0 by
              rw [List.map_take]
              refine firstE_step (l := f.made.map (madeE fs)) (by rw [← List.map_take]; exact hz.out) (by rw [List.getElem?_map, hx]; rfl) ?_
              obtain ⟨q0, _, hq, _⟩ := posF_some hp
              rw [madeE, hq]; rfl)
            clear hx hp hz hfi hsA hE
            go_wp2_with (go_at_call 60; refine HFX.out.mono ?_; rintro e wy ⟨rfl, rfl⟩)
            go_roundw
            case rel => exact ⟨k2 + 1, by omega, by go_num, HE2.out, HS⟩
            case measure => simp [intOf]; omega
        · have HR := Lib.hid (show res = 0 by
            have := hz.out
            rw [List.take_of_length_le (by have := HL2.out; omega)] at this
            rw [HF.out, firstE_app, if_pos HZ.out, this])
          have HE2 := Lib.hid hE
          clear hz hE
          go_wp2_with fail
          go_ret
          exact ⟨ret_int HR.out.symm, hE1.trans HE2.out⟩
end Go.Proofs.Ytmeplpiamkaniaa
namespace Go.Proofs.Ytmeplpiamkaniaa
set_option linter.unusedVariables false
set_option linter.unusedSimpArgs false
open Go.RowKit
def RetNewE (w : World) (fs : List Fl) (e : Ending) (w' : World) : Prop := ∃ r, NewE fs r ∧ e = .returned (.int .i64 r) ∧ E w w'
theorem link_refs {fs : List Fl} (h : chk2 fs = 0) : ∀ f ∈ fs, ∀ j ∈ refsF f, ∃ q, getF fs j = some q := fun f hf j hj => by
  rw [chk2, firstE_zero] at h
  have hl := h _ (List.mem_map.2 ⟨f, hf, rfl⟩)
  rcases List.mem_append.1 hj with hj | hj
  · obtain ⟨p, hp, rfl⟩ := List.mem_map.1 hj
    obtain ⟨q, h1, _⟩ := link_part hl hp
    exact ⟨q, h1⟩
  · exact link_made hl hj
set_option linter.unusedSimpArgs false in
set_option maxHeartbeats 8000000 in
set_option maxRecDepth 100000 in
theorem check_c (A : Option Addr) (n c : Nat) (fs : List Fl) (w : World) (h : FlowsAt w A n c fs) (hn : n ≤ 1000) (hz : ∀ f ∈ fs, f.parts.length ≤ 100000 ∧ f.made.length ≤ 100000) :
    Calls Try.prog 31 #[.slice A n c] w (RetNewE w fs) := by
  have HH := Lib.hid h
  have HL := Lib.hid h.len
  have HZ := Lib.hid hz
  have hn63 := h.n63
  have hcap : (n : Int) ≤ (c : Int) := by have := h.cap; omega
  clear h hz
  go_enter Try.func31, Try.ntmps31
  go_upto_region 2 with fail
  go_loopw [3] (fun ti wr => ∃ k : Nat, k ≤ n ∧ ti = .int .i64 k ∧ E w wr ∧ Hid (chk1 [] (fs.take k) = 0)) (fun ti _ => n - (intOf ti).toNat)
  case atStart => exact ⟨0, Nat.zero_le _, rfl, E.refl _, show _ = _ by rw [List.take_zero]; rfl⟩
  case round =>
    obtain ⟨k, hk, rfl, hE, hc1⟩ := hrel
    by_cases hlt : k < n
    · have hkI : (k : Int) < (n : Int) := by omega
      have hk0 : (0 : Int) ≤ (k : Int) := by omega
      have hkc : (k : Int) ≤ (c : Int) := by omega
      obtain ⟨b, o, f, s, t, hA, hb, hf, hwf, hc, hB⟩ := (HH.out.e hE).get hlt
      have HPO := Lib.hid (rPossible_c f s.1 s.2.1 s.2.2 t.1 t.2.1 t.2.2 wr hB)
      have HF := Lib.hid hf
      have HE := Lib.hid hE
      have HFT := Lib.hid (fun W (hW : E wr W) => find_c A k c (fs.take k) f.id W ((HH.out.e (hE.trans hW)).take k (Nat.le_of_lt hlt)))
      have HS := Lib.hid (fun W (hW : E wr W) => show W.cell? ⟨b, o + k * 11, none⟩ = some (.int .i64 f.id) from (hW.cell (p := ⟨b, _, none⟩) hb).trans hc.1)
      unfold flV at HPO
      unfold FlCells at hc
      obtain ⟨q0, q1, q2, q3, q4, q5, q6, q7, q8, q9, q10⟩ := hc
      subst hA
      obtain ⟨bv, hbv⟩ : ∃ bv, okF f = bv := ⟨_, rfl⟩
      have HBV := Lib.hid hbv
      rw [hbv] at HPO
      clear hf hE hB hb hwf hbv
      cases bv
      · have HR := Lib.hid (show NewE fs 1 by
          have h1 := chk1_bad hc1.out HF.out HBV.out
          rw [← h1]
          exact NewE.one (by rw [h1]; decide))
        go_wp2_with (go_at_call 68; refine HPO.out.mono ?_; rintro e w2 ⟨rfl, hE2⟩)
        go_ret
        exact ⟨1, HR.out, rfl, HE.out.trans hE2⟩
      · go_upto_region 5 with (go_at_call 68; refine HPO.out.mono ?_; rintro e w2 ⟨rfl, hE2⟩)
        have HE2 := Lib.hid hE2
        have hEa := hE2.drew
        clear q0 q1 q2 q3 q4 q5 q6 q7 q8 q9 q10 hE2
        go_upto_region 7 with fail
        refine wp_region_held_drew (S := fun W => W.cell? ⟨b, o + k * 11, none⟩ = some (.int .i64 f.id)) (by kernel_rfl) (HS.out _ hEa) (fun hHeld => ?_)
        (((refine wpAnyH_take (i := 0) (v := ?_) rfl (by kernel_rfl) (by kernel_rfl) (by kernel_rfl) (fun _ _ _ h => h) (Or.inl ⟨by kernel_rfl, ?_⟩) (by assumption) ?_); rotate_left 1; (focus (intro w hSw; (try dsimp only at hSw); go_simp; (try with_reducible rfl))); (try simp only [Act.put, List.setIfInBounds_toArray, List.set_cons_zero, List.set_cons_succ])); ((refine wpAnyH_take (i := 1) (v := ?_) rfl (by kernel_rfl) (by kernel_rfl) (by kernel_rfl) (fun _ _ _ h => h) (Or.inl ⟨by kernel_rfl, ?_⟩) (by assumption) ?_); rotate_left 1; (focus (intro w hSw; (try dsimp only at hSw); go_simp; (try with_reducible rfl))); (try simp only [Act.put, List.setIfInBounds_toArray, List.set_cons_zero, List.set_cons_succ])); ((refine wpAnyH_take (i := 2) (v := ?_) rfl (by kernel_rfl) (by kernel_rfl) (by kernel_rfl) (fun _ _ _ h => h) (Or.inl ⟨by kernel_rfl, ?_⟩) (by assumption) ?_); rotate_left 1; (focus (intro w hSw; (try dsimp only at hSw); go_simp; (try with_reducible rfl))); (try simp only [Act.put, List.setIfInBounds_toArray, List.set_cons_zero, List.set_cons_succ])); ((refine wpAnyH_take (i := 3) (v := ?_) rfl (by kernel_rfl) (by kernel_rfl) (by kernel_rfl) (fun _ _ _ h => h) (Or.inl ⟨by kernel_rfl, ?_⟩) (by assumption) ?_); rotate_left 1; (focus (intro w hSw; (try dsimp only at hSw); go_simp; (try with_reducible rfl))); (try simp only [Act.put, List.setIfInBounds_toArray, List.set_cons_zero, List.set_cons_succ])); ((refine wpAnyH_take (i := 4) (v := ?_) rfl (by kernel_rfl) (by kernel_rfl) (by kernel_rfl) (fun _ _ _ h => h) (Or.inl ⟨by kernel_rfl, ?_⟩) (by assumption) ?_); rotate_left 1; (focus (intro w hSw; (try dsimp only at hSw); go_simp; (try with_reducible rfl))); (try simp only [Act.put, List.setIfInBounds_toArray, List.set_cons_zero, List.set_cons_succ])); ((refine wpAnyH_take (i := 5) (v := ?_) rfl (by kernel_rfl) (by kernel_rfl) (by kernel_rfl) (fun _ _ _ h => h) (Or.inl ⟨by kernel_rfl, ?_⟩) (by assumption) ?_); rotate_left 1; (focus (intro w hSw; (try dsimp only at hSw); go_simp; (try with_reducible rfl))); (try simp only [Act.put, List.setIfInBounds_toArray, List.set_cons_zero, List.set_cons_succ])); ((refine wpAnyH_take (i := 6) (v := ?_) rfl (by kernel_rfl) (by kernel_rfl) (by kernel_rfl) (fun _ _ _ h => h) (Or.inl ⟨by kernel_rfl, ?_⟩) (by assumption) ?_); rotate_left 1; (focus (intro w hSw; (try dsimp only at hSw); go_simp; (try with_reducible rfl))); (try simp only [Act.put, List.setIfInBounds_toArray, List.set_cons_zero, List.set_cons_succ])); ((refine wpAnyH_take (i := 7) (v := ?_) rfl (by kernel_rfl) (by kernel_rfl) (by kernel_rfl) (fun _ _ _ h => h) (Or.inl ⟨by kernel_rfl, ?_⟩) (by assumption) ?_); rotate_left 1; (focus (intro w hSw; (try dsimp only at hSw); go_simp; (try with_reducible rfl))); (try simp only [Act.put, List.setIfInBounds_toArray, List.set_cons_zero, List.set_cons_succ])))
        (((refine wpAnyH_ready (rs := [8]) (by kernel_rfl) (by simp) ?_); (refine AllReadyH.cons rfl (fun K hK => ?_) AllReadyH.nil); (rw [if_pos (by kernel_rfl)]); go_simp))
        have HFX := Lib.hid (HFT.out _ hEa)
        cases hp : posF (fs.take k) f.id with
        | none =>
          have hfi : findI (fs.take k) f.id = -1 := by rw [findI, hp]
          rw [hfi] at HFX
          have HC := Lib.hid (chk1_next hc1.out HF.out HBV.out hp)
          refine HFX.out.mono ?_
          rintro e wn ⟨rfl, rfl⟩
          refine hK _ _ (HS.out _ hEa) (fun hh => ?_)
          clear hK K hHeld
          have hHeld := hh
          clear hh
          (try simp only [List.getElem_toArray, List.getElem_cons_succ, List.getElem_cons_zero, Act.put, List.setIfInBounds_toArray, List.set_cons_zero, List.set_cons_succ])
          (((refine wpAnyH_take (i := 9) (v := ?_) rfl (by kernel_rfl) (by kernel_rfl) (by kernel_rfl) (fun _ _ _ h => h) (Or.inl ⟨by kernel_rfl, ?_⟩) (by assumption) ?_); rotate_left 1; (focus (intro w hSw; (try dsimp only at hSw); go_simp; (try with_reducible rfl))); (try simp only [Act.put, List.setIfInBounds_toArray, List.set_cons_zero, List.set_cons_succ])))
          refine wpAnyH_done (by kernel_rfl) ?_ _
          go_simp
          clear hp hfi hHeld
          go_wp2_with fail
          go_roundw
          case rel => exact ⟨k + 1, by omega, by go_num, HE.out.trans hEa, HC⟩
          case measure => simp [intOf]; omega
        | some j =>
          have hfi : findI (fs.take k) f.id = (j : Int) := by rw [findI, hp]
          rw [hfi] at HFX
          have HR := Lib.hid (show NewE fs 8 by
            have h1 := chk1_twice hc1.out HF.out HBV.out hp
            rw [← h1]
            exact NewE.one (by rw [h1]; decide))
          have hj0 : (0 : Int) ≤ (j : Int) := by omega
          refine HFX.out.mono ?_
          rintro e wn ⟨rfl, rfl⟩
          refine hK _ _ (HS.out _ hEa) (fun hh => ?_)
          clear hK K hHeld
          have hHeld := hh
          clear hh
          (try simp only [List.getElem_toArray, List.getElem_cons_succ, List.getElem_cons_zero, Act.put, List.setIfInBounds_toArray, List.set_cons_zero, List.set_cons_succ])
          (((refine wpAnyH_take (i := 9) (v := ?_) rfl (by kernel_rfl) (by kernel_rfl) (by kernel_rfl) (fun _ _ _ h => h) (Or.inl ⟨by kernel_rfl, ?_⟩) (by assumption) ?_); rotate_left 1; (focus (intro w hSw; (try dsimp only at hSw); go_simp; (try with_reducible rfl))); (try simp only [Act.put, List.setIfInBounds_toArray, List.set_cons_zero, List.set_cons_succ])))
          refine wpAnyH_done (by kernel_rfl) ?_ _
          go_simp
          clear hp hfi hHeld
          go_wp2_with fail
          go_ret
          exact ⟨8, HR.out, rfl, HE.out.trans hEa⟩
    · have HC1 := Lib.hid (show chk1 [] fs = 0 by
        have := hc1.out
        rwa [List.take_of_length_le (by rw [HL.out]; omega)] at this)
      have HE := Lib.hid hE
      clear hc1 hE
      go_upto_region 10 with fail
      go_loopw [5] (fun ti wq => ∃ k : Nat, k ≤ n ∧ ti = .int .i64 k ∧ E w wq ∧ Hid (firstE ((fs.map (linkE fs)).take k) = 0)) (fun ti _ => n - (intOf ti).toNat)
      case atStart => exact ⟨0, Nat.zero_le _, rfl, HE.out, show _ = _ by rw [List.take_zero]; rfl⟩
      case round =>
        clear HE hk hlt
        obtain ⟨k2, hk, rfl, hE, hz⟩ := hrel
        by_cases hlt : k2 < n
        · have hkI : (k2 : Int) < (n : Int) := by omega
          obtain ⟨b, o, f, s, t, hA, hb, hf, hwf, hc, hB⟩ := (HH.out.e hE).get hlt
          have HLK := Lib.hid (links_c A n c fs f s t wr (HH.out.e hE) hB (fun x hx => (validB_iff.1 (okF_iff.1 (((chk1_facts HC1.out).1 f (List.mem_of_getElem? hf)).1)).1).2 x hx))
          have HFK := Lib.hid (show (fs.map (linkE fs))[k2]? = some (linkE fs f) by rw [List.getElem?_map, hf]; rfl)
          have HE := Lib.hid hE
          unfold flV at HLK
          unfold FlCells at hc
          obtain ⟨q0, q1, q2, q3, q4, q5, q6, q7, q8, q9, q10⟩ := hc
          subst hA
          clear hf hE hB hb hwf
          generalize linkE fs f = le at *
          by_cases h0 : le = 0
          · subst h0
            have HS := Lib.hid (firstE_step hz.out HFK.out rfl)
            go_wp2_with (go_at_call 69; refine HLK.out.mono ?_; rintro e w2 ⟨rfl, hE2⟩)
            go_roundw
            case rel => exact ⟨k2 + 1, by omega, by go_num, HE.out.trans hE2, HS⟩
            case measure => simp [intOf]; omega
          · have hb0 : (le != 0) = true := by simpa using h0
            have HR := Lib.hid (show NewE fs le by
              have h1 := firstE_at (m := []) hz.out HFK.out h0
              rw [List.append_nil] at h1
              have h2 : chk2 fs = le := h1
              rw [← h2]
              exact NewE.two HC1.out (by rw [h2]; exact h0))
            have H0 := Lib.hid h0
            clear h0
            go_wp2_with (go_at_call 69; refine HLK.out.mono ?_; rintro e w2 ⟨rfl, hE2⟩)
            go_ret
            exact ⟨le, HR.out, rfl, HE.out.trans hE2⟩
        · have HC2 := Lib.hid (show chk2 fs = 0 by
            have := hz.out
            rwa [List.take_of_length_le (by rw [List.length_map, HL.out]; omega)] at this)
          have HE := Lib.hid hE
          clear hz hE
          go_upto_region 16 with fail
          go_loopw [7] (fun ti wq => ∃ k : Nat, k ≤ n ∧ ti = .int .i64 k ∧ E w wq ∧ Hid (∀ j f, j < k → fs[j]? = some f → ¬ Lead1 fs f.id f.id)) (fun ti _ => n - (intOf ti).toNat)
          case atStart => exact ⟨0, Nat.zero_le _, rfl, HE.out, fun j f hj => absurd hj (by omega)⟩
          case round =>
            clear HE hk hlt
            obtain ⟨k3, hk, rfl, hE, hz⟩ := hrel
            by_cases hlt : k3 < n
            · have hkI : (k3 : Int) < (n : Int) := by omega
              obtain ⟨b, o, f, s, t, hA, hb, hf, hwf, hc, hB⟩ := (HH.out.e hE).get hlt
              have hfm := List.mem_of_getElem? hf
              have HLD := Lib.hid (fun W (hW : E wr W) => leads_c A n c fs f.id W (HH.out.e (hE.trans hW)) (link_refs HC2.out) ⟨f, (chk1_facts HC1.out).2.mem hfm⟩ hwf.1 hn HZ.out)
              have HF := Lib.hid hf
              have HE := Lib.hid hE
              have HS := Lib.hid (fun W (hW : E wr W) => show W.cell? ⟨b, o + k3 * 11, none⟩ = some (.int .i64 f.id) from (hW.cell (p := ⟨b, _, none⟩) hb).trans hc.1)
              subst hA
              have hEa := (E.refl wr).drew
              clear hf hE hB hb hwf hc hfm
              go_upto_region 18 with fail
              refine wp_region_held_drew (S := fun W => W.cell? ⟨b, o + k3 * 11, none⟩ = some (.int .i64 f.id)) (by kernel_rfl) (HS.out _ hEa) (fun hHeld => ?_)
              (((refine wpAnyH_take (i := 0) (v := ?_) rfl (by kernel_rfl) (by kernel_rfl) (by kernel_rfl) (fun _ _ _ h => h) (Or.inl ⟨by kernel_rfl, ?_⟩) (by assumption) ?_); rotate_left 1; (focus (intro w hSw; (try dsimp only at hSw); go_simp; (try with_reducible rfl))); (try simp only [Act.put, List.setIfInBounds_toArray, List.set_cons_zero, List.set_cons_succ])); ((refine wpAnyH_take (i := 1) (v := ?_) rfl (by kernel_rfl) (by kernel_rfl) (by kernel_rfl) (fun _ _ _ h => h) (Or.inl ⟨by kernel_rfl, ?_⟩) (by assumption) ?_); rotate_left 1; (focus (intro w hSw; (try dsimp only at hSw); go_simp; (try with_reducible rfl))); (try simp only [Act.put, List.setIfInBounds_toArray, List.set_cons_zero, List.set_cons_succ])); ((refine wpAnyH_take (i := 2) (v := ?_) rfl (by kernel_rfl) (by kernel_rfl) (by kernel_rfl) (fun _ _ _ h => h) (Or.inl ⟨by kernel_rfl, ?_⟩) (by assumption) ?_); rotate_left 1; (focus (intro w hSw; (try dsimp only at hSw); go_simp; (try with_reducible rfl))); (try simp only [Act.put, List.setIfInBounds_toArray, List.set_cons_zero, List.set_cons_succ])); ((refine wpAnyH_take (i := 3) (v := ?_) rfl (by kernel_rfl) (by kernel_rfl) (by kernel_rfl) (fun _ _ _ h => h) (Or.inl ⟨by kernel_rfl, ?_⟩) (by assumption) ?_); rotate_left 1; (focus (intro w hSw; (try dsimp only at hSw); go_simp; (try with_reducible rfl))); (try simp only [Act.put, List.setIfInBounds_toArray, List.set_cons_zero, List.set_cons_succ])); ((refine wpAnyH_take (i := 4) (v := ?_) rfl (by kernel_rfl) (by kernel_rfl) (by kernel_rfl) (fun _ _ _ h => h) (Or.inl ⟨by kernel_rfl, ?_⟩) (by assumption) ?_); rotate_left 1; (focus (intro w hSw; (try dsimp only at hSw); go_simp; (try with_reducible rfl))); (try simp only [Act.put, List.setIfInBounds_toArray, List.set_cons_zero, List.set_cons_succ])); ((refine wpAnyH_take (i := 5) (v := ?_) rfl (by kernel_rfl) (by kernel_rfl) (by kernel_rfl) (fun _ _ _ h => h) (Or.inl ⟨by kernel_rfl, ?_⟩) (by assumption) ?_); rotate_left 1; (focus (intro w hSw; (try dsimp only at hSw); go_simp; (try with_reducible rfl))); (try simp only [Act.put, List.setIfInBounds_toArray, List.set_cons_zero, List.set_cons_succ])); ((refine wpAnyH_take (i := 7) (v := ?_) rfl (by kernel_rfl) (by kernel_rfl) (by kernel_rfl) (fun _ _ _ h => h) (Or.inl ⟨by kernel_rfl, ?_⟩) (by assumption) ?_); rotate_left 1; (focus (intro w hSw; (try dsimp only at hSw); go_simp; (try with_reducible rfl))); (try simp only [Act.put, List.setIfInBounds_toArray, List.set_cons_zero, List.set_cons_succ])); ((refine wpAnyH_take (i := 8) (v := ?_) rfl (by kernel_rfl) (by kernel_rfl) (by kernel_rfl) (fun _ _ _ h => h) (Or.inl ⟨by kernel_rfl, ?_⟩) (by assumption) ?_); rotate_left 1; (focus (intro w hSw; (try dsimp only at hSw); go_simp; (try with_reducible rfl))); (try simp only [Act.put, List.setIfInBounds_toArray, List.set_cons_zero, List.set_cons_succ])); ((refine wpAnyH_take (i := 9) (v := ?_) rfl (by kernel_rfl) (by kernel_rfl) (by kernel_rfl) (fun _ _ _ h => h) (Or.inl ⟨by kernel_rfl, ?_⟩) (by assumption) ?_); rotate_left 1; (focus (intro w hSw; (try dsimp only at hSw); go_simp; (try with_reducible rfl))); (try simp only [Act.put, List.setIfInBounds_toArray, List.set_cons_zero, List.set_cons_succ])); ((refine wpAnyH_take (i := 10) (v := ?_) rfl (by kernel_rfl) (by kernel_rfl) (by kernel_rfl) (fun _ _ _ h => h) (Or.inl ⟨by kernel_rfl, ?_⟩) (by assumption) ?_); rotate_left 1; (focus (intro w hSw; (try dsimp only at hSw); go_simp; (try with_reducible rfl))); (try simp only [Act.put, List.setIfInBounds_toArray, List.set_cons_zero, List.set_cons_succ])); ((refine wpAnyH_take (i := 11) (v := ?_) rfl (by kernel_rfl) (by kernel_rfl) (by kernel_rfl) (fun _ _ _ h => h) (Or.inl ⟨by kernel_rfl, ?_⟩) (by assumption) ?_); rotate_left 1; (focus (intro w hSw; (try dsimp only at hSw); go_simp; (try with_reducible rfl))); (try simp only [Act.put, List.setIfInBounds_toArray, List.set_cons_zero, List.set_cons_succ])))
              (((refine wpAnyH_ready (rs := [6]) (by kernel_rfl) (by simp) ?_); (refine AllReadyH.cons rfl (fun K hK => ?_) AllReadyH.nil); (rw [if_pos (by kernel_rfl)]); go_simp))
              refine (HLD.out _ hEa).mono ?_
              rintro e wn ⟨out, hnd, hmem, hol, A8, n8, c8, rfl, hO8, hEn⟩
              replace hEa := hEa.trans hEn
              refine hK _ _ (HS.out _ hEa) (fun hh => ?_)
              clear hK K hHeld
              have hHeld := hh
              clear hh hEn
              (try simp only [List.getElem_toArray, List.getElem_cons_succ, List.getElem_cons_zero, Act.put, List.setIfInBounds_toArray, List.set_cons_zero, List.set_cons_succ])
              (((refine wpAnyH_ready (rs := [12]) (by kernel_rfl) (by simp) ?_); (refine AllReadyH.cons rfl (fun K hK => ?_) AllReadyH.nil); (rw [if_pos (by kernel_rfl)]); go_simp))
              have HHC := Lib.hid (has_c A8 n8 c8 out f.id wn hO8.reads)
              have HM := Lib.hid (hmem f.id)
              clear hO8 hnd hmem hol
              obtain ⟨bv, hbv⟩ : ∃ bv, out.contains f.id = bv := ⟨_, rfl⟩
              rw [hbv] at HHC
              have HBV := Lib.hid hbv
              clear hbv
              refine HHC.out.mono ?_
              rintro e wm ⟨rfl, rfl⟩
              refine hK _ _ (HS.out _ hEa) (fun hh => ?_)
              clear hK K hHeld
              have hHeld := hh
              clear hh
              (try simp only [List.getElem_toArray, List.getElem_cons_succ, List.getElem_cons_zero, Act.put, List.setIfInBounds_toArray, List.set_cons_zero, List.set_cons_succ])
              (((refine wpAnyH_take (i := 13) (v := ?_) rfl (by kernel_rfl) (by kernel_rfl) (by kernel_rfl) (fun _ _ _ h => h) (Or.inl ⟨by kernel_rfl, ?_⟩) (by assumption) ?_); rotate_left 1; (focus (intro w hSw; (try dsimp only at hSw); go_simp; (try with_reducible rfl))); (try simp only [Act.put, List.setIfInBounds_toArray, List.set_cons_zero, List.set_cons_succ])))
              refine wpAnyH_done (by kernel_rfl) ?_ _
              go_simp
              clear hHeld
              cases bv
              · have HN := Lib.hid (show ∀ j g, j < k3 + 1 → fs[j]? = some g → ¬ Lead1 fs g.id g.id from fun j g hj hg => by
                  rcases Nat.lt_or_ge j k3 with h1 | h1
                  · exact hz.out j g h1 hg
                  · have : j = k3 := by omega
                    subst this
                    rw [HF.out] at hg
                    injection hg with hg
                    subst hg
                    intro hl
                    have h2 := HM.out.2 hl
                    have h3 := HBV.out
                    rw [List.contains_eq_mem, decide_eq_false_iff_not] at h3
                    exact h3 h2)
                go_wp2_with fail
                go_roundw
                case rel => exact ⟨k3 + 1, by omega, by go_num, HE.out.trans hEa, HN⟩
                case measure => simp [intOf]; omega
              · have HR := Lib.hid (show NewE fs 18 from NewE.cyc_ HC1.out HC2.out (HM.out.1 (by have h3 := HBV.out; rwa [List.contains_eq_mem, decide_eq_true_eq] at h3)))
                go_wp2_with fail
                go_ret
                exact ⟨18, HR.out, rfl, HE.out.trans hEa⟩
            · have HR := Lib.hid (show NewE fs 0 from NewE.no_cyc HC1.out HC2.out fun f hf => by
                obtain ⟨j, hj⟩ := List.getElem?_of_mem hf
                exact hz.out j f (by have := (List.getElem?_eq_some_iff.1 hj).1; rw [HL.out] at this; omega) hj)
              have HE := Lib.hid hE
              clear hz hE
              go_wp2_with fail
              go_ret
              exact ⟨0, HR.out, rfl, HE.out⟩
end Go.Proofs.Ytmeplpiamkaniaa
