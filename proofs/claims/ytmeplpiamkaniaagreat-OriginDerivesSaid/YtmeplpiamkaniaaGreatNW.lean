/- Lemmas of the claim, joined: GDq. No condition. -/
import Derived.Test.YtmeplpiamkaniaaGreatNK
import Derived.Test.YtmeplpiamkaniaaGreatNE
namespace Go.Proofs.YtmeplpiamkaniaaGreat
set_option linter.unusedVariables false
set_option linter.unusedSimpArgs false
theorem chk1_zeroI {fs : List Fl} : ∀ (seen : List Int), (∀ f ∈ fs, okF f = true ∧ f.id ∉ seen) → Ids fs → chk1 seen fs = 0 := by
  induction fs with
  | nil => intro seen _ _; rfl
  | cons f fs ih =>
    intro seen h hi
    obtain ⟨h1, h2⟩ := h f List.mem_cons_self
    have hi' := List.pairwise_cons.1 hi
    rw [chk1, if_pos h1, if_neg (by simpa using h2)]
    refine ih _ (fun g hg => ⟨(h g (List.mem_cons_of_mem _ hg)).1, fun hm => ?_⟩) hi'.2
    rcases List.mem_append.1 hm with hm | hm
    · exact (h g (List.mem_cons_of_mem _ hg)).2 hm
    · rw [List.mem_singleton] at hm
      exact hi'.1 g hg hm.symm
section
variable {fs ds : List Fl} {i : Int}
theorem DerOf.ids (h : DerOf fs i ds) : Ids ds := by
  have := h.srt
  rw [List.pairwise_map] at this
  exact this.imp fun hlt e => by omega
theorem DerOf.get (hg : GOk fs) (h : DerOf fs i ds) {j : Int} (hj : j = i ∨ Lead1 fs i j) {f : Fl} (hf : getF fs j = some f) : getF ds j = some f := by
  obtain ⟨h1, h2⟩ := getF_some hf
  have hm := (h.mem f).2 ⟨h1, by rw [h2]; exact hj⟩
  rw [← h2]
  exact h.ids.mem hm
theorem DerOf.refs (hg : GOk fs) (h : DerOf fs i ds) {f : Fl} (hf : f ∈ ds) {j : Int} (hj : j ∈ refsF f) : ∃ q, getF fs j = some q ∧ getF ds j = some q := by
  obtain ⟨h1, h2⟩ := (h.mem f).1 hf
  obtain ⟨q, hq⟩ := hg.refs h1 hj
  have hfi := hg.ids.mem h1
  refine ⟨q, hq, h.get hg (.inr ?_) hq⟩
  rcases h2 with e | e
  · rw [e] at hfi; exact .one hfi hj
  · exact .more e hfi hj
theorem DerOf.gok (hg : GOk fs) (h : DerOf fs i ds) : GOk ds := by
  refine ⟨chk1_zeroI [] (fun f hf => ⟨hg.ok f ((h.mem f).1 hf).1, by simp⟩) h.ids, ?_, ?_⟩
  · rw [chk2, firstE_zero]
    intro e he
    obtain ⟨f, hf, rfl⟩ := List.mem_map.1 he
    have hl := hg.link f ((h.mem f).1 hf).1
    refine linkE_zero (fun p hp => ?_) (fun j hj => ?_)
    · obtain ⟨q, h1, h2, h3⟩ := link_part hl hp
      obtain ⟨q', h4, h5⟩ := h.refs hg hf (List.mem_append_left _ (List.mem_map.2 ⟨p, hp, rfl⟩))
      rw [h1] at h4
      injection h4 with h4
      subst h4
      exact ⟨q, h5, h2, h3⟩
    · obtain ⟨q', _, h5⟩ := h.refs hg hf (List.mem_append_right _ hj)
      exact ⟨q', h5⟩
  · obtain ⟨rk, hrk⟩ := hg.rk
    exact ⟨rk, fun f hf => hrk f ((h.mem f).1 hf).1⟩
theorem DerOf.lead (hg : GOk fs) (h : DerOf fs i ds) {j : Int} (hl : Lead1 fs i j) : Lead1 ds i j := by
  induction hl with
  | one h1 h2 => exact .one (h.get hg (.inl rfl) h1) h2
  | more h0 h1 h2 ih => exact .more ih (h.get hg (.inr h0) h1) h2
theorem DerOf.self (hg : GOk fs) (h : DerOf fs i ds) : DerOf ds i ds :=
  ⟨h.srt, fun f => ⟨fun hf => ⟨hf, ((h.mem f).1 hf).2.imp _root_.id (h.lead hg)⟩, fun hf => hf.1⟩⟩
theorem DerOf.hash (h : DerOf fs i ds) {k : Int → Int} (hk : HashOf fs k) : HashOf ds k := fun f hf => hk f ((h.mem f).1 hf).1
theorem DerOf.has {x : Lt} (hg : GOk fs) (h : DerOf fs x.1 ds) (hx : hasF fs x = true) : hasF ds x = true := by
  obtain ⟨h1, f, h2, h3⟩ := hasF_iff.1 hx
  exact hasF_iff.2 ⟨h1, f, h.get hg (.inl rfl) h2, h3⟩
theorem ver_der {x : Lt} {k : Int → Int} (hg : GOk fs) (h : DerOf fs x.1 ds) (hx : hasF fs x = true) (hk : HashOf fs k) {v r : Int} (hv : VerE ds x v r) : (k x.1 = v → r = 0) ∧ (k x.1 ≠ v → r = 19) :=
  ⟨fun e => hv.inj (VerE.ok (h.gok hg) (h.has hg hx) (h.self hg) (Nat.lt_irrefl _) (h.hash hk) e), fun e => hv.inj (VerE.sum (h.gok hg) (h.has hg hx) (h.self hg) (Nat.lt_irrefl _) (h.hash hk) e)⟩
end
end Go.Proofs.YtmeplpiamkaniaaGreat
