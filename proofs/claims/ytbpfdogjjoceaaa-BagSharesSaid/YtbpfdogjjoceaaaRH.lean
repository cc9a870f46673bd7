/- Plain laws: Decode leads back from Encode, and what Decode accepts is an encoding. -/
import Derived.Test.YtbpfdogjjoceaaaRG
import Derived.Test.YtbpfdogjjoceaaaLawLists
namespace Go.Proofs.Ytbpfdogjjoceaaa

theorem rdIS_uv (n : Int) (r : List Int) (h1 : -9223372036854775808 ≤ n) (h2 : n ≤ 9223372036854775807) : rdIS (uv (zig n) ++ r) 0 = (n, r, 0) := by
  have := rdU_uv (zig n) 0 0 r (by omega) (fun h => absurd h (by omega)) (by have := zig_lt n h1 h2; simpa using this)
  simp only [Nat.pow_zero, Nat.mul_one, Nat.zero_add] at this
  simp only [rdIS, rdUS, ne_eq, not_true_eq_false, if_false, this, Int.toNat_natCast, unzig_zig]
theorem rdIS_back {r r' : List Int} {e : Int} {x : Int} (hb : ∀ z ∈ r, 0 ≤ z ∧ z ≤ 255) (h : rdIS r e = (x, r', 0)) : e = 0 ∧ r = uv (zig x) ++ r' := by
  by_cases he : e = 0
  · subst he
    refine ⟨rfl, ?_⟩
    simp only [rdIS, rdUS, ne_eq, not_true_eq_false, if_false, Int.toNat_natCast, Prod.mk.injEq] at h
    obtain ⟨h1, h2, h3⟩ := h
    obtain ⟨u, hu, hl, _, _⟩ := rdU_back r 0 0 (rdU 0 0 r).1 r' hb (by omega) (by decide) (by rw [← h2, ← h3])
    rw [← h1, zig_unzig, hu]
    simpa using hl
  · simp only [rdIS, rdUS, he, ne_eq, not_false_eq_true, if_true, Prod.mk.injEq] at h
    exact h.2.2.elim
theorem decF_enc : ∀ (d : List (Int × Int)) (r : List Int), (∀ x ∈ d, (-9223372036854775808 ≤ x.1 ∧ x.1 ≤ 9223372036854775807) ∧ (-9223372036854775808 ≤ x.2 ∧ x.2 ≤ 9223372036854775807)) → decF d.length (encF d ++ r) 0 = (d, r, 0)
  | [], r, _ => rfl
  | (x, y) :: d, r, h => by
    have hx := h (x, y) List.mem_cons_self
    have e1 := rdIS_uv x (uv (zig y) ++ (encF d ++ r)) hx.1.1 hx.1.2
    have e2 := rdIS_uv y (encF d ++ r) hx.2.1 hx.2.2
    have ih := decF_enc d r (fun z hz => h z (List.mem_cons_of_mem _ hz))
    simp only [List.length_cons, decF, encF, List.append_assoc, e1, e2, ih]
theorem decF_back : ∀ (k : Nat) (r r' : List Int) (e : Int) (d : List (Int × Int)), (∀ z ∈ r, 0 ≤ z ∧ z ≤ 255) → decF k r e = (d, r', 0) → e = 0 ∧ r = encF d ++ r' ∧ d.length = k
  | 0, r, r', e, d, _, h => by
    simp only [decF, Prod.mk.injEq] at h
    obtain ⟨rfl, rfl, rfl⟩ := h
    exact ⟨rfl, rfl, rfl⟩
  | k + 1, r, r', e, d, hb, h => by
    cases ha : rdIS r e with
    | mk x a =>
      obtain ⟨r1, e1⟩ := a
      cases hc : rdIS r1 e1 with
      | mk y a =>
        obtain ⟨r2, e2⟩ := a
        simp only [decF, ha, hc, Prod.mk.injEq] at h
        obtain ⟨h1, h2⟩ := h
        have hd : decF k r2 e2 = ((decF k r2 e2).1, r', 0) := by rw [← h2]
        have sub : ∀ (s s' : List Int) (f f' : Int) (v : Int), rdIS s f = (v, s', f') → ∀ z ∈ s', z ∈ s := by
          intro s s' f f' v hv z hz
          simp only [rdIS, rdUS] at hv
          split at hv
          · simp only [Prod.mk.injEq] at hv; rw [hv.2.1]; exact hz
          · simp only [Prod.mk.injEq] at hv
            rw [← hv.2.1] at hz
            exact rdU_sub s 0 0 z hz
        have hb1 : ∀ z ∈ r1, 0 ≤ z ∧ z ≤ 255 := fun z hz => hb z (sub _ _ _ _ _ ha z hz)
        have hb2 : ∀ z ∈ r2, 0 ≤ z ∧ z ≤ 255 := fun z hz => hb1 z (sub _ _ _ _ _ hc z hz)
        obtain ⟨f1, f2, f3⟩ := decF_back k r2 r' e2 _ hb2 hd
        subst f1
        obtain ⟨g1, g2⟩ := rdIS_back hb1 hc
        subst g1
        obtain ⟨k1, k2⟩ := rdIS_back hb ha
        refine ⟨k1, ?_, by rw [← h1]; simp [f3]⟩
        rw [k2, g2, f2, ← h1]
        simp [encF]
where
  rdU_sub : ∀ (s : List Int) (i n : Nat) (z : Int), z ∈ (rdU i n s).2.1 → z ∈ s
    | [], i, n, z, h => by simp [rdU] at h
    | b :: s, i, n, z, h => by
      rw [rdU] at h
      split at h
      · exact List.mem_cons_of_mem _ h
      · split at h
        · exact List.mem_cons_of_mem _ h
        · exact List.mem_cons_of_mem _ (rdU_sub s _ _ z h)

/-- the numbers of the items from k on, of which amounts are given -/
def unam : Nat → Nat → List (Int × Int) → List Int
  | _, 0, _ => []
  | k, r + 1, [] => 0 :: unam (k + 1) r []
  | k, r + 1, (x, y) :: d => if x = (k : Int) then y :: unam (k + 1) r d else 0 :: unam (k + 1) r ((x, y) :: d)
theorem unam_len : ∀ (r k : Nat) (d : List (Int × Int)), (unam k r d).length = r
  | 0, _, _ => by simp [unam]
  | r + 1, k, [] => by simp [unam, unam_len r]
  | r + 1, k, (x, y) :: d => by simp only [unam]; split <;> simp [unam_len r]
theorem unam_facts (N : Int) : ∀ (r k : Nat) (d : List (Int × Int)), validF N ((k : Int) - 1) d = true → N = ((k + r : Nat) : Int) → amF k (unam k r d) = d ∧ ∀ x ∈ unam k r d, 0 ≤ x ∧ x ≤ 1099511627776
  | 0, k, [], _, _ => ⟨rfl, by simp [unam]⟩
  | 0, k, (x, y) :: d, h, hN => by
    simp only [validF, properB, Bool.and_eq_true, decide_eq_true_eq] at h
    omega
  | r + 1, k, [], _, hN => by
    obtain ⟨h1, h2⟩ := unam_facts N r (k + 1) [] rfl (by omega)
    refine ⟨by simp only [unam, amF]; simpa using h1, fun x hx => ?_⟩
    simp only [unam, List.mem_cons] at hx
    rcases hx with rfl | hx
    · omega
    · exact h2 x hx
  | r + 1, k, (x, y) :: d, h, hN => by
    have h' := h
    simp only [validF, properB, Bool.and_eq_true, decide_eq_true_eq] at h'
    by_cases hx : x = (k : Int)
    · obtain ⟨h1, h2⟩ := unam_facts N r (k + 1) d (by rw [show (((k + 1 : Nat) : Int) - 1) = x by omega]; exact h'.2.2) (by omega)
      refine ⟨?_, fun z hz => ?_⟩
      · simp only [unam, if_pos hx, amF]
        rw [if_pos (by omega), h1, hx]
      · simp only [unam, if_pos hx, List.mem_cons] at hz
        rcases hz with rfl | hz
        · omega
        · exact h2 z hz
    · have hv : validF N (((k + 1 : Nat) : Int) - 1) ((x, y) :: d) = true := by
        simp only [validF, properB, Bool.and_eq_true, decide_eq_true_eq]
        exact ⟨h'.1, by omega, h'.2.2⟩
      obtain ⟨h1, h2⟩ := unam_facts N r (k + 1) ((x, y) :: d) hv (by omega)
      refine ⟨?_, fun z hz => ?_⟩
      · simp only [unam, if_neg hx, amF]
        rw [if_neg (by omega)]; exact h1
      · simp only [unam, if_neg hx, List.mem_cons] at hz
        rcases hz with rfl | hz
        · omega
        · exact h2 z hz
/-- amounts that are valid are those of a bag -/
theorem valid_bag {N : Int} {d : List (Int × Int)} (h : validS N d = true) : ∃ l, isBagB l = true ∧ (l.length : Int) = N ∧ amountsS l = d ∧ ofS N d = (l, 0) := by
  simp only [validS, Bool.and_eq_true, decide_eq_true_eq] at h
  obtain ⟨⟨hN0, hN1⟩, hv⟩ := h
  obtain ⟨m, rfl⟩ : ∃ m : Nat, N = m := ⟨N.toNat, by omega⟩
  obtain ⟨h1, h2⟩ := unam_facts m m 0 d (by simpa using hv) (by omega)
  have hlen := unam_len m 0 d
  have hbag : isBagB (unam 0 m d) = true := isBag_iff.2 ⟨by omega, h2⟩
  have ha : amountsS (unam 0 m d) = d := by simp [amountsS, hbag, h1]
  have hf := (lists_facts hbag).1
  rw [ha, hlen] at hf
  exact ⟨unam 0 m d, hbag, by omega, ha, hf⟩

theorem decode_encode {l : List Int} (h : isBagB l = true) : decodeS (encodeS l) = (l, 0) := by
  obtain ⟨hl, hm⟩ := isBag_iff.1 h
  obtain ⟨f1, f2⟩ := lists_facts h
  have hal : (amountsS l).length ≤ l.length := by have := amF_len l 0; simp [amountsS, h]; exact this
  have hr : ∀ x ∈ amountsS l, (-9223372036854775808 ≤ x.1 ∧ x.1 ≤ 9223372036854775807) ∧ (-9223372036854775808 ≤ x.2 ∧ x.2 ≤ 9223372036854775807) := by
    intro x hx
    have hv := f2
    simp only [validS, Bool.and_eq_true] at hv
    have hp := properF_amF hv.2
    have := (List.all_eq_true.1 hp) x hx
    simp only [properB, Bool.and_eq_true, decide_eq_true_eq] at this
    omega
  have e0 : encodeS l = uv (zig l.length) ++ (uv (zig (amountsS l).length) ++ (encF (amountsS l) ++ [])) := by simp [encodeS, h]
  have e1 := rdIS_uv l.length (uv (zig (amountsS l).length) ++ (encF (amountsS l) ++ [])) (by omega) (by omega)
  have e2 := rdIS_uv (amountsS l).length (encF (amountsS l) ++ []) (by omega) (by omega)
  have e3 := decF_enc (amountsS l) [] hr
  simp only [decodeS, e0, e1, e2, Int.toNat_natCast, e3]
  rw [if_neg (by omega), if_neg]
  · exact f1
  · rintro (h | h)
    · simp [endS] at h
    · rw [f2] at h; cases h
theorem decode_any {c : List Int} (hb : ∀ z ∈ c, 0 ≤ z ∧ z ≤ 255) : ((decodeS c).2 = 2 ∧ (decodeS c).1 = []) ∨ ((decodeS c).2 = 0 ∧ encodeS (decodeS c).1 = c) := by
  cases ha : rdIS c 0 with
  | mk N a =>
    obtain ⟨r1, e1⟩ := a
    cases hc : rdIS r1 e1 with
    | mk M a =>
      obtain ⟨r2, e2⟩ := a
      cases hd : decF M.toNat r2 e2 with
      | mk d a =>
        obtain ⟨r3, e3⟩ := a
        have hS : decodeS c = if N < 0 ∨ 64 < N ∨ M < 0 ∨ N < M then ([], 2) else if endS r3 e3 ≠ 0 ∨ validS N d = false then ([], 2) else ofS N d := by
          simp only [decodeS, ha, hc, hd]
        by_cases c1 : N < 0 ∨ 64 < N ∨ M < 0 ∨ N < M
        · rw [hS, if_pos c1]; exact .inl ⟨rfl, rfl⟩
        · rw [if_neg c1] at hS
          by_cases c2 : endS r3 e3 ≠ 0 ∨ validS N d = false
          · rw [hS, if_pos c2]; exact .inl ⟨rfl, rfl⟩
          · rw [if_neg c2] at hS
            have hv : validS N d = true := by
              cases hv : validS N d
              · exact absurd (.inr hv) c2
              · rfl
            have he : endS r3 e3 = 0 := Classical.byContradiction fun h => c2 (.inl h)
            have hee : e3 = 0 ∧ r3 = [] := by
              unfold endS at he
              split at he
              · rename_i h; exact absurd he h
              · rename_i h
                have h0 : e3 = 0 := Classical.byContradiction h
                split at he
                · rename_i h2; exact ⟨h0, h2⟩
                · simp at he
            obtain ⟨rfl, rfl⟩ := hee
            have sub : ∀ (s s' : List Int) (f f' : Int) (v : Int), rdIS s f = (v, s', f') → ∀ z ∈ s', z ∈ s := by
              intro s s' f f' v hv z hz
              simp only [rdIS, rdUS] at hv
              split at hv
              · simp only [Prod.mk.injEq] at hv; rw [hv.2.1]; exact hz
              · simp only [Prod.mk.injEq] at hv
                rw [← hv.2.1] at hz
                exact decF_back.rdU_sub s 0 0 z hz
            have hb1 : ∀ z ∈ r1, 0 ≤ z ∧ z ≤ 255 := fun z hz => hb z (sub _ _ _ _ _ ha z hz)
            have hb2 : ∀ z ∈ r2, 0 ≤ z ∧ z ≤ 255 := fun z hz => hb1 z (sub _ _ _ _ _ hc z hz)
            obtain ⟨f1, f2, f3⟩ := decF_back _ _ _ _ _ hb2 hd
            subst f1
            obtain ⟨g1, g2⟩ := rdIS_back hb1 hc
            subst g1
            obtain ⟨_, k2⟩ := rdIS_back hb ha
            obtain ⟨l, hl1, hl2, hl3, hl4⟩ := valid_bag hv
            right
            rw [hS, hl4]
            refine ⟨rfl, ?_⟩
            simp only [encodeS, hl1, if_true, hl3]
            rw [k2, g2, f2, hl2, f3, show ((M.toNat : Nat) : Int) = M by omega]
            simp
end Go.Proofs.Ytbpfdogjjoceaaa
