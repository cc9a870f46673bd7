/- Lemmas of the claim, joined: RH RI DPl. No condition. -/
import Derived.Test.YthcicfolabngcaaGA
/- Plain laws: Decode leads back from Encode, and what Decode accepts is an encoding. -/
namespace Go.Proofs.Ythcicfolabngcaa

theorem rdIS_uv (n : Int) (r : List Int) (h1 : -9223372036854775808 ≤ n) (h2 : n ≤ 9223372036854775807) : rdIS (uv (zig n) ++ r) 0 = (n, r, 0) := by
  have := rdU_uv (zig n) 0 0 r (by omega) (fun h => absurd h (by omega)) (by have := zig_lt n h1 h2; simpa using this)
  simp only [Nat.pow_zero, Nat.mul_one, Nat.zero_add] at this
  simp only [rdIS, rdUS, ne_eq, not_true_eq_false, if_false, this, Int.toNat_natCast, unzig_zig]
theorem rdIS_back {r r' : List Int} {e : Int} {x : Int} (hb : ∀ z ∈ r, 0 ≤ z ∧ z ≤ 255) (h : rdIS r e = (x, r', 0)) : e = 0 ∧ r = uv (zig x) ++ r' := by
  by_cases he : e = 0
  · subst he
    refine ⟨rfl, ?_⟩
    simp only [rdIS, rdUS, ne_eq, not_true_eq_false, if_false, Int.toNat_natCast, Prod.mk.injEq] at h
    obtain ⟨h1, h2, h3⟩ := h
    obtain ⟨u, hu, hl, _, _⟩ := rdU_back r 0 0 (rdU 0 0 r).1 r' hb (by omega) (by decide) (by rw [← h2, ← h3])
    rw [← h1, zig_unzig, hu]
    simpa using hl
  · simp only [rdIS, rdUS, he, ne_eq, not_false_eq_true, if_true, Prod.mk.injEq] at h
    exact h.2.2.elim
theorem decF_enc : ∀ (d : List (Int × Int)) (r : List Int), (∀ x ∈ d, (-9223372036854775808 ≤ x.1 ∧ x.1 ≤ 9223372036854775807) ∧ (-9223372036854775808 ≤ x.2 ∧ x.2 ≤ 9223372036854775807)) → decF d.length (encF d ++ r) 0 = (d, r, 0)
  | [], r, _ => rfl
  | (x, y) :: d, r, h => by
    have hx := h (x, y) List.mem_cons_self
    have e1 := rdIS_uv x (uv (zig y) ++ (encF d ++ r)) hx.1.1 hx.1.2
    have e2 := rdIS_uv y (encF d ++ r) hx.2.1 hx.2.2
    have ih := decF_enc d r (fun z hz => h z (List.mem_cons_of_mem _ hz))
    simp only [List.length_cons, decF, encF, List.append_assoc, e1, e2, ih]
theorem decF_back : ∀ (k : Nat) (r r' : List Int) (e : Int) (d : List (Int × Int)), (∀ z ∈ r, 0 ≤ z ∧ z ≤ 255) → decF k r e = (d, r', 0) → e = 0 ∧ r = encF d ++ r' ∧ d.length = k
  | 0, r, r', e, d, _, h => by
    simp only [decF, Prod.mk.injEq] at h
    obtain ⟨rfl, rfl, rfl⟩ := h
    exact ⟨rfl, rfl, rfl⟩
  | k + 1, r, r', e, d, hb, h => by
    cases ha : rdIS r e with
    | mk x a =>
      obtain ⟨r1, e1⟩ := a
      cases hc : rdIS r1 e1 with
      | mk y a =>
        obtain ⟨r2, e2⟩ := a
        simp only [decF, ha, hc, Prod.mk.injEq] at h
        obtain ⟨h1, h2⟩ := h
        have hd : decF k r2 e2 = ((decF k r2 e2).1, r', 0) := by rw [← h2]
        have sub : ∀ (s s' : List Int) (f f' : Int) (v : Int), rdIS s f = (v, s', f') → ∀ z ∈ s', z ∈ s := by
          intro s s' f f' v hv z hz
          simp only [rdIS, rdUS] at hv
          split at hv
          · simp only [Prod.mk.injEq] at hv; rw [hv.2.1]; exact hz
          · simp only [Prod.mk.injEq] at hv
            rw [← hv.2.1] at hz
            exact rdU_sub s 0 0 z hz
        have hb1 : ∀ z ∈ r1, 0 ≤ z ∧ z ≤ 255 := fun z hz => hb z (sub _ _ _ _ _ ha z hz)
        have hb2 : ∀ z ∈ r2, 0 ≤ z ∧ z ≤ 255 := fun z hz => hb1 z (sub _ _ _ _ _ hc z hz)
        obtain ⟨f1, f2, f3⟩ := decF_back k r2 r' e2 _ hb2 hd
        subst f1
        obtain ⟨g1, g2⟩ := rdIS_back hb1 hc
        subst g1
        obtain ⟨k1, k2⟩ := rdIS_back hb ha
        refine ⟨k1, ?_, by rw [← h1]; simp [f3]⟩
        rw [k2, g2, f2, ← h1]
        simp [encF]
where
  rdU_sub : ∀ (s : List Int) (i n : Nat) (z : Int), z ∈ (rdU i n s).2.1 → z ∈ s
    | [], i, n, z, h => by simp [rdU] at h
    | b :: s, i, n, z, h => by
      rw [rdU] at h
      split at h
      · exact List.mem_cons_of_mem _ h
      · split at h
        · exact List.mem_cons_of_mem _ h
        · exact List.mem_cons_of_mem _ (rdU_sub s _ _ z h)

/-- the numbers of the items from k on, of which amounts are given -/
def unam : Nat → Nat → List (Int × Int) → List Int
  | _, 0, _ => []
  | k, r + 1, [] => 0 :: unam (k + 1) r []
  | k, r + 1, (x, y) :: d => if x = (k : Int) then y :: unam (k + 1) r d else 0 :: unam (k + 1) r ((x, y) :: d)
theorem unam_len : ∀ (r k : Nat) (d : List (Int × Int)), (unam k r d).length = r
  | 0, _, _ => by simp [unam]
  | r + 1, k, [] => by simp [unam, unam_len r]
  | r + 1, k, (x, y) :: d => by simp only [unam]; split <;> simp [unam_len r]
theorem unam_facts (N : Int) : ∀ (r k : Nat) (d : List (Int × Int)), validF N ((k : Int) - 1) d = true → N = ((k + r : Nat) : Int) → amF k (unam k r d) = d ∧ ∀ x ∈ unam k r d, 0 ≤ x ∧ x ≤ 1099511627776
  | 0, k, [], _, _ => ⟨rfl, by simp [unam]⟩
  | 0, k, (x, y) :: d, h, hN => by
    simp only [validF, properB, Bool.and_eq_true, decide_eq_true_eq] at h
    omega
  | r + 1, k, [], _, hN => by
    obtain ⟨h1, h2⟩ := unam_facts N r (k + 1) [] rfl (by omega)
    refine ⟨by simp only [unam, amF]; simpa using h1, fun x hx => ?_⟩
    simp only [unam, List.mem_cons] at hx
    rcases hx with rfl | hx
    · omega
    · exact h2 x hx
  | r + 1, k, (x, y) :: d, h, hN => by
    have h' := h
    simp only [validF, properB, Bool.and_eq_true, decide_eq_true_eq] at h'
    by_cases hx : x = (k : Int)
    · obtain ⟨h1, h2⟩ := unam_facts N r (k + 1) d (by rw [show (((k + 1 : Nat) : Int) - 1) = x by omega]; exact h'.2.2) (by omega)
      refine ⟨?_, fun z hz => ?_⟩
      · simp only [unam, if_pos hx, amF]
        rw [if_pos (by omega), h1, hx]
      · simp only [unam, if_pos hx, List.mem_cons] at hz
        rcases hz with rfl | hz
        · omega
        · exact h2 z hz
    · have hv : validF N (((k + 1 : Nat) : Int) - 1) ((x, y) :: d) = true := by
        simp only [validF, properB, Bool.and_eq_true, decide_eq_true_eq]
        exact ⟨h'.1, by omega, h'.2.2⟩
      obtain ⟨h1, h2⟩ := unam_facts N r (k + 1) ((x, y) :: d) hv (by omega)
      refine ⟨?_, fun z hz => ?_⟩
      · simp only [unam, if_neg hx, amF]
        rw [if_neg (by omega)]; exact h1
      · simp only [unam, if_neg hx, List.mem_cons] at hz
        rcases hz with rfl | hz
        · omega
        · exact h2 z hz
/-- amounts that are valid are those of a bag -/
theorem valid_bag {N : Int} {d : List (Int × Int)} (h : validS N d = true) : ∃ l, isBagB l = true ∧ (l.length : Int) = N ∧ amountsS l = d ∧ ofS N d = (l, 0) := by
  simp only [validS, Bool.and_eq_true, decide_eq_true_eq] at h
  obtain ⟨⟨hN0, hN1⟩, hv⟩ := h
  obtain ⟨m, rfl⟩ : ∃ m : Nat, N = m := ⟨N.toNat, by omega⟩
  obtain ⟨h1, h2⟩ := unam_facts m m 0 d (by simpa using hv) (by omega)
  have hlen := unam_len m 0 d
  have hbag : isBagB (unam 0 m d) = true := isBag_iff.2 ⟨by omega, h2⟩
  have ha : amountsS (unam 0 m d) = d := by simp [amountsS, hbag, h1]
  have hf := (lists_facts hbag).1
  rw [ha, hlen] at hf
  exact ⟨unam 0 m d, hbag, by omega, ha, hf⟩

theorem decode_encode {l : List Int} (h : isBagB l = true) : decodeS (encodeS l) = (l, 0) := by
  obtain ⟨hl, hm⟩ := isBag_iff.1 h
  obtain ⟨f1, f2⟩ := lists_facts h
  have hal : (amountsS l).length ≤ l.length := by have := amF_len l 0; simp [amountsS, h]; exact this
  have hr : ∀ x ∈ amountsS l, (-9223372036854775808 ≤ x.1 ∧ x.1 ≤ 9223372036854775807) ∧ (-9223372036854775808 ≤ x.2 ∧ x.2 ≤ 9223372036854775807) := by
    intro x hx
    have hv := f2
    simp only [validS, Bool.and_eq_true] at hv
    have hp := properF_amF hv.2
    have := (List.all_eq_true.1 hp) x hx
    simp only [properB, Bool.and_eq_true, decide_eq_true_eq] at this
    omega
  have e0 : encodeS l = uv (zig l.length) ++ (uv (zig (amountsS l).length) ++ (encF (amountsS l) ++ [])) := by simp [encodeS, h]
  have e1 := rdIS_uv l.length (uv (zig (amountsS l).length) ++ (encF (amountsS l) ++ [])) (by omega) (by omega)
  have e2 := rdIS_uv (amountsS l).length (encF (amountsS l) ++ []) (by omega) (by omega)
  have e3 := decF_enc (amountsS l) [] hr
  simp only [decodeS, e0, e1, e2, Int.toNat_natCast, e3]
  rw [if_neg (by omega), if_neg]
  · exact f1
  · rintro (h | h)
    · simp [endS] at h
    · rw [f2] at h; cases h
theorem decode_any {c : List Int} (hb : ∀ z ∈ c, 0 ≤ z ∧ z ≤ 255) : ((decodeS c).2 = 2 ∧ (decodeS c).1 = []) ∨ ((decodeS c).2 = 0 ∧ encodeS (decodeS c).1 = c) := by
  cases ha : rdIS c 0 with
  | mk N a =>
    obtain ⟨r1, e1⟩ := a
    cases hc : rdIS r1 e1 with
    | mk M a =>
      obtain ⟨r2, e2⟩ := a
      cases hd : decF M.toNat r2 e2 with
      | mk d a =>
        obtain ⟨r3, e3⟩ := a
        have hS : decodeS c = if N < 0 ∨ 64 < N ∨ M < 0 ∨ N < M then ([], 2) else if endS r3 e3 ≠ 0 ∨ validS N d = false then ([], 2) else ofS N d := by
          simp only [decodeS, ha, hc, hd]
        by_cases c1 : N < 0 ∨ 64 < N ∨ M < 0 ∨ N < M
        · rw [hS, if_pos c1]; exact .inl ⟨rfl, rfl⟩
        · rw [if_neg c1] at hS
          by_cases c2 : endS r3 e3 ≠ 0 ∨ validS N d = false
          · rw [hS, if_pos c2]; exact .inl ⟨rfl, rfl⟩
          · rw [if_neg c2] at hS
            have hv : validS N d = true := by
              cases hv : validS N d
              · exact absurd (.inr hv) c2
              · rfl
            have he : endS r3 e3 = 0 := Classical.byContradiction fun h => c2 (.inl h)
            have hee : e3 = 0 ∧ r3 = [] := by
              unfold endS at he
              split at he
              · rename_i h; exact absurd he h
              · rename_i h
                have h0 : e3 = 0 := Classical.byContradiction h
                split at he
                · rename_i h2; exact ⟨h0, h2⟩
                · simp at he
            obtain ⟨rfl, rfl⟩ := hee
            have sub : ∀ (s s' : List Int) (f f' : Int) (v : Int), rdIS s f = (v, s', f') → ∀ z ∈ s', z ∈ s := by
              intro s s' f f' v hv z hz
              simp only [rdIS, rdUS] at hv
              split at hv
              · simp only [Prod.mk.injEq] at hv; rw [hv.2.1]; exact hz
              · simp only [Prod.mk.injEq] at hv
                rw [← hv.2.1] at hz
                exact decF_back.rdU_sub s 0 0 z hz
            have hb1 : ∀ z ∈ r1, 0 ≤ z ∧ z ≤ 255 := fun z hz => hb z (sub _ _ _ _ _ ha z hz)
            have hb2 : ∀ z ∈ r2, 0 ≤ z ∧ z ≤ 255 := fun z hz => hb1 z (sub _ _ _ _ _ hc z hz)
            obtain ⟨f1, f2, f3⟩ := decF_back _ _ _ _ _ hb2 hd
            subst f1
            obtain ⟨g1, g2⟩ := rdIS_back hb1 hc
            subst g1
            obtain ⟨_, k2⟩ := rdIS_back hb ha
            obtain ⟨l, hl1, hl2, hl3, hl4⟩ := valid_bag hv
            right
            rw [hS, hl4]
            refine ⟨rfl, ?_⟩
            simp only [encodeS, hl1, if_true, hl3]
            rw [k2, g2, f2, hl2, f3, show ((M.toNat : Nat) : Int) = M by omega]
            simp
end Go.Proofs.Ythcicfolabngcaa
/- A row of the call's own whose elements are slices of bytes. -/
namespace Go.Proofs.Ythcicfolabngcaa
open Go.RowKit

/-- bytes that lie in a block of bytes -/
structure Byt (w : World) (A : Option Addr) (n c : Nat) (l : List Int) : Prop where
  nums : Nums .u8 w A n c l
  blk : ∀ b o, A = some ⟨b, o, none⟩ → 0 < n → ∃ cs fr, w.heap[b]? = some (.cells cs 5 fr)
theorem Own.byt {w : World} {base : Nat} {A : Option Addr} {n c : Nat} {l : List Int} (h : Own .u8 5 w base A n c l) : Byt w A n c l := by
  refine ⟨h.reads, fun b o hA hn => ?_⟩
  obtain ⟨_, ⟨_, a2⟩, _⟩ := h
  rcases a2 with ⟨hv, h0⟩ | ⟨g, cap, cur, hv, _, hh, _⟩
  · omega
  · injection hv with e1
    rw [hA] at e1
    injection e1 with e1
    injection e1 with e1
    subst e1
    exact ⟨_, _, hh⟩
theorem Byt.e {w w' : World} {A : Option Addr} {n c : Nat} {l : List Int} (h : Byt w A n c l) (hE : E w w') : Byt w' A n c l :=
  ⟨h.nums.e hE, fun b o hA hn => by
    obtain ⟨cs, fr, hb⟩ := h.blk b o hA hn
    exact ⟨cs, fr, by rw [hE.block (blk_lt hb)]; exact hb⟩⟩
theorem Byt.far {w w' : World} {A : Option Addr} {n c : Nat} {l : List Int} {row : Option Nat} (h : Byt w A n c l) (hG : w.grownBy w' row) (hrow : ∀ g, row = some g → ∃ cs fr, w.heap[g]? = some (.cells cs 27 fr)) : Byt w' A n c l := by
  have key : ∀ b o, A = some ⟨b, o, none⟩ → 0 < n → w'.heap[b]? = w.heap[b]? := fun b o hA hn => by
    obtain ⟨cs, fr, hb⟩ := h.blk b o hA hn
    refine hG.block b (blk_lt hb) (fun e => ?_)
    obtain ⟨cs', fr', hb'⟩ := hrow b e.symm
    rw [hb] at hb'
    injection hb' with hb'
    injection hb' with _ ht
    exact absurd ht (by decide)
  refine ⟨⟨h.nums.len, h.nums.cap, h.nums.mx, h.nums.wf, fun hn => ?_⟩, fun b o hA hn => ?_⟩
  · obtain ⟨b, o, h1, h2, h3⟩ := h.nums.at_ hn
    refine ⟨b, o, h1, Nat.lt_of_lt_of_le h2 hG.size, fun i hi => ?_⟩
    rw [← h3 i hi]
    exact World.cell?_of_block (key b o h1 hn)
  · obtain ⟨cs, fr, hb⟩ := h.blk b o hA hn
    exact ⟨cs, fr, by rw [key b o hA hn]; exact hb⟩
theorem Byt.take {w : World} {A : Option Addr} {n c : Nat} {l : List Int} (h : Byt w A n c l) {m : Nat} (hm : m ≤ n) : Byt w A m c (l.take m) := by
  have htl : (l.take m).length = m := by rw [List.length_take, h.nums.len]; omega
  refine ⟨⟨htl, by have := h.nums.cap; omega, h.nums.mx, fun x hx => h.nums.wf x (List.mem_of_mem_take hx), fun h0 => ?_⟩, fun b o hA h0 => h.blk b o hA (by omega)⟩
  obtain ⟨b, o, h1, h2, h3⟩ := h.nums.at_ (by omega)
  refine ⟨b, o, h1, h2, fun i hi => ?_⟩
  rw [List.getElem_take]
  exact h3 i (by rw [htl] at hi; rw [h.nums.len]; omega)

/-- a row of the call's own of n slices of bytes, each of at most 100000 bytes -/
def OwnB (w : World) (base : Nat) (A : Option Addr) (n c : Nat) : Prop :=
  ∃ xs : List Value, w.ownsRow base 27 1 (.slice A n c) n xs ∧ ∀ v ∈ xs, ∃ A' n' c' l, v = .slice A' n' c' ∧ Byt w A' n' c' l ∧ n' ≤ 100000
theorem ownB_row {w : World} {base : Nat} {A : Option Addr} {n c : Nat} {xs : List Value} (h : w.ownsRow base 27 1 (.slice A n c) n xs) : ∀ g, (Value.slice A n c).ownBlock = some g → ∃ cs fr, w.heap[g]? = some (.cells cs 27 fr) := by
  intro g hg
  rcases h.2 with ⟨hv, _⟩ | ⟨g', cap, cur, hv, _, hh, _⟩
  · rw [hv] at hg; simp [Value.ownBlock] at hg
  · rw [hv] at hg
    have : g' = g := by simpa [Value.ownBlock] using hg
    subst this
    exact ⟨_, _, hh⟩
theorem OwnB.e {w w' : World} {base : Nat} {A : Option Addr} {n c : Nat} (h : OwnB w base A n c) (hE : E w w') : OwnB w' base A n c := by
  obtain ⟨xs, h1, h2⟩ := h
  refine ⟨xs, ⟨h1.1, ?_⟩, fun v hv => ?_⟩
  · rcases h1.2 with a2 | ⟨g, cap, cur, hv, hb, hh, r⟩
    · exact .inl a2
    · exact .inr ⟨g, cap, cur, hv, hb, by rw [hE.block (blk_lt hh)]; exact hh, r⟩
  · obtain ⟨A', n', c', l, e, hB, hn⟩ := h2 v hv
    exact ⟨A', n', c', l, e, hB.e hE, hn⟩
theorem OwnB.get {w : World} {base : Nat} {A : Option Addr} {n c : Nat} (h : OwnB w base A n c) {i : Nat} (hi : i < n) :
    ∃ g A' n' c' l, A = some ⟨g, 0, none⟩ ∧ g < w.heap.size ∧ w.cell? ⟨g, i, none⟩ = some (.slice A' n' c') ∧ Byt w A' n' c' l ∧ n' ≤ 100000 := by
  obtain ⟨xs, h1, h2⟩ := h
  have hl : i < xs.length := by have := h1.1; omega
  obtain ⟨A', n', c', l, e, hB, hn⟩ := h2 _ (List.getElem_mem hl)
  have h1' := h1
  rcases h1.2 with ⟨_, h0⟩ | ⟨g, cap, cur, hv, hb, hh, r⟩
  · omega
  · injection hv with e1 e2 e3
    subst e1 e3
    refine ⟨g, A', n', c', l, rfl, blk_lt hh, ?_, hB, hn⟩
    rw [World.ownsRow.cellAt h1' i (by omega), List.getElem?_eq_getElem hl, e]
/-- codes = append(codes, a, b) -/
theorem wpList_appB {P : Program} {S : TypeId} (hund : P.underlying S = some (.slice 27)) (hinfo : (P.info? 27).map (fun i => (i.zero, i.size, i.bytes)) = some (some (.slice none 0 0), 1, 24)) (w : World) {ops : Array Oper} {rest : List Oper} {o : Oper} {a : Act} {Q : Exit → Act → World → Prop} (hgd : o.guard = none) (s x : Operand)
    (ho : o.op = .call { callee := .builtin .append, args := #[s, x], argTypes := #[S, S] })
    (base : Nat) (A : Option Addr) (n c : Nat) (hs : a.eval s = .slice A n c) (hown : OwnB w base A n c)
    (A1 A2 : Option Addr) (n1 c1 n2 c2 : Nat) (l1 l2 : List Int) (hx : a.eval x = .slice (some ⟨w.heap.size, 0, none⟩) 2 2) (h1 : Byt w A1 n1 c1 l1) (h2 : Byt w A2 n2 c2 l2) (hn1 : n1 ≤ 100000) (hn2 : n2 ≤ 100000)
    (hlen : n ≤ 1000) (hbase : base ≤ w.heap.size)
    (h : ∀ A' c' w', OwnB w' base A' (n + 2) c' → Below base w w' → wpList P ops Q rest (a.put o.dst (.slice A' (n + 2) c')) w') :
    wpList P ops Q (o :: rest) a (w.alloc (.cells #[.slice A1 n1 c1, .slice A2 n2 c2] 27)) := by
  obtain ⟨i, hi, hz0, hz1, hz2⟩ := info_parts hinfo
  have hE := (E.refl w).alloc (.cells #[.slice A1 n1 c1, .slice A2 n2 c2] 27)
  obtain ⟨xs, hr, hall⟩ := hown.e hE
  obtain ⟨xs0, hr0, _⟩ := hown
  have b1 := h1.e hE
  have b2 := h2.e hE
  refine wpList_plain hgd fun K hK' => ?_
  obtain ⟨v', w', hrun, g2, g3, g4, g5⟩ := run_append_own_at (P := P) (w.alloc (.cells #[.slice A1 n1 c1, .slice A2 n2 c2] 27)) base S o.type 27 i _ 1 24 hund hi hz0 hz1 hz2 rfl (by decide) _ n _ hr ⟨w.heap.size, 0, none⟩ 2 2 [.slice A1 n1 c1, .slice A2 n2 c2] rfl
    (by intro j u hu
        have hc := fun jj => cell_of_row _ w.heap.size jj _ _ _ (heap_alloc_new w (.cells #[.slice A1 n1 c1, .slice A2 n2 c2] 27))
        match j with
        | 0 => simp at hu; subst hu; exact hc 0
        | 1 => simp at hu; subst hu; exact hc 1
        | j + 2 => simp at hu)
    (by intro u hu; simp at hu; rcases hu with rfl | rfl <;> rfl) (by unfold maxLen; omega) (by omega) (by simp; omega)
  unfold Oper.wp execOp
  simp only [ho, resolve, invoke, builtin, Sem.run_bind, Sem.run_pure, Result.andThen_ok, List.map_toArray, List.map_cons, List.map_nil, hs, hx, hrun]
  have hG' := grown_of_alloc g3
  rcases g2.2 with ⟨_, h0⟩ | ⟨g', c', cur, rfl, _⟩
  · omega
  · refine hK' _ _ (h _ c' w' ⟨xs ++ [.slice A1 n1 c1, .slice A2 n2 c2], g2, fun v hv => ?_⟩ ((Below.refl base w).grown hG' hbase (fun k hk => (World.ownsRow.lt hr0 k hk).1)))
    rcases List.mem_append.1 hv with hv | hv
    · obtain ⟨A', n', c'', l, e, hB, hn⟩ := hall v hv
      exact ⟨A', n', c'', l, e, hB.far g3 (ownB_row hr), hn⟩
    · simp at hv
      rcases hv with rfl | rfl
      · exact ⟨A1, n1, c1, l1, rfl, b1.far g3 (ownB_row hr), hn1⟩
      · exact ⟨A2, n2, c2, l2, rfl, b2.far g3 (ownB_row hr), hn2⟩
end Go.Proofs.Ythcicfolabngcaa
/- A disk whose power is planned to fail: plain. -/
namespace Go.Proofs.Ythcicfolabngcaa

/-- i steps have been tried, the power fails in step m; file 1 alone bears bytes -/
structure PlanS (m i z : Nat) (s : DS) : Prop where
  off : s.off = decide (m < i)
  plan : s.plan = if i ≤ m then ((m : Int) - (i : Int)) else -1
  b : ∀ j, j ≠ 1 → s.b j = []
  len : (s.b 1).length = z
  room : s.room = 1000
  top : z ≤ i
theorem PlanS.used {m i z : Nat} {s : DS} (h : PlanS m i z s) : usedF s.b = z := by
  have h1 : s.b = upd (fun _ => []) 1 (s.b 1) := by
    funext j
    by_cases e : j = 1
    · rw [e, upd_same]
    · rw [upd_other _ _ e]; exact h.b j e
  have := usedF_upd (fun _ => []) (i := 1) (s.b 1) rfl
  rw [← h1, usedF_nil] at this
  simp at this
  rw [this, h.len]
theorem PlanS.step {m i z : Nat} {s : DS} (h : PlanS m i z s) (hi : i ≤ m) : PlanS m (i + 1) z (stepS s) ∧ (stepS s).off = decide (m ≤ i) := by
  have hp := h.plan
  rw [if_pos hi] at hp
  have hs : stepS s = { s with plan := s.plan - 1, off := s.off || decide (s.plan = 0) } := by unfold stepS; rw [if_neg (by omega)]
  have ho : (s.off || decide (s.plan = 0)) = decide (m ≤ i) := by
    rw [h.off, show decide (m < i) = false by simp; omega, Bool.false_or, hp]
    by_cases e : m ≤ i
    · simp [e]; omega
    · simp [e]; omega
  rw [hs]
  refine ⟨⟨?_, ?_, h.b, h.len, h.room, by have := h.top; omega⟩, ho⟩
  · show (s.off || decide (s.plan = 0)) = _
    rw [ho]
    by_cases e : m ≤ i
    · rw [decide_eq_true e, decide_eq_true (by omega)]
    · rw [decide_eq_false e, decide_eq_false (by omega)]
  · show s.plan - 1 = _
    rw [hp]
    split <;> omega
theorem PlanS.stay {m i z : Nat} {s : DS} (h : PlanS m i z s) (hi : m < i) : PlanS m (i + 1) z s :=
  ⟨by rw [h.off, decide_eq_true hi, decide_eq_true (by omega)], by rw [h.plan, if_neg (by omega), if_neg (by omega)], h.b, h.len, h.room, by have := h.top; omega⟩
theorem PlanS.app {m i z : Nat} {s : DS} (h : PlanS m i z s) (hi : i < 500) :
    (appR s 1 [5]).1 = (if i < m then 0 else 23) ∧ PlanS m (i + 1) (if i ≤ m then z + 1 else z) (appR s 1 [5]).2 := by
  unfold appR
  rw [if_neg (by decide)]
  by_cases e : m < i
  · rw [if_pos (by rw [h.off]; simpa using e), if_neg (by omega), if_neg (by omega)]
    exact ⟨rfl, h.stay e⟩
  · rw [if_neg (by rw [h.off]; simpa using e), if_neg (by rw [h.used, h.room]; have := h.top; simp; omega)]
    obtain ⟨h1, h2⟩ := h.step (by omega)
    refine ⟨?_, ?_⟩
    · rw [h2]
      by_cases e2 : m ≤ i
      · rw [if_pos (by simpa using e2), if_neg (by omega)]
      · rw [if_neg (by simpa using e2), if_pos (by omega)]
    · rw [if_pos (by omega)]
      refine ⟨h1.off, h1.plan, fun j hj => ?_, ?_, h1.room, by have := h.top; omega⟩
      · simp only [appS]; rw [upd_other _ _ hj]; exact h1.b j hj
      · simp only [appS, upd_same]; rw [List.length_append, h1.len]; rfl
theorem PlanS.sync {m i z : Nat} {s : DS} (h : PlanS m i z s) :
    (syncR s).1 = (if i < m then 0 else 23) ∧ PlanS m (i + 1) z (syncR s).2 := by
  unfold syncR
  by_cases e : m < i
  · rw [if_pos (by rw [h.off]; simpa using e), if_neg (by omega)]
    exact ⟨rfl, h.stay e⟩
  · rw [if_neg (by rw [h.off]; simpa using e)]
    obtain ⟨h1, h2⟩ := h.step (by omega)
    rw [h2]
    by_cases e2 : m ≤ i
    · rw [if_pos (by simpa using e2), if_neg (by omega)]
      exact ⟨rfl, h1⟩
    · rw [if_neg (by simpa using e2), if_pos (by omega)]
      exact ⟨rfl, ⟨h1.off, h1.plan, h1.b, h1.len, h1.room, h1.top⟩⟩
theorem PlanS.trunc {m i z : Nat} {s : DS} (h : PlanS m i z s) (hz : 0 < z) :
    (truncR s 1 ((z : Int) - 1)).1 = (if i < m then 0 else 23) ∧ PlanS m (i + 1) (if i < m then z - 1 else z) (truncR s 1 ((z : Int) - 1)).2 := by
  unfold truncR
  rw [if_neg (by
    rintro (h1 | h1 | h1)
    · exact absurd h1 (by decide)
    · omega
    · rw [h.len] at h1; omega)]
  by_cases e : m < i
  · rw [if_pos (by rw [h.off]; simpa using e), if_neg (by omega), if_neg (by omega)]
    exact ⟨rfl, h.stay e⟩
  · rw [if_neg (by rw [h.off]; simpa using e)]
    obtain ⟨h1, h2⟩ := h.step (by omega)
    rw [h2]
    by_cases e2 : m ≤ i
    · rw [if_pos (by simpa using e2), if_neg (by omega), if_neg (by omega)]
      exact ⟨rfl, h1⟩
    · rw [if_neg (by simpa using e2), if_pos (by omega), if_pos (by omega)]
      refine ⟨rfl, ⟨h1.off, h1.plan, fun j hj => ?_, ?_, h1.room, by have := h1.top; omega⟩⟩
      · simp only [cutS]; rw [upd_other _ _ hj]; exact h1.b j hj
      · simp only [cutS, upd_same]
        rw [List.length_take, h1.len]
        omega
/-- a crash that keeps everything and inverts nothing -/
theorem PlanS.crash {m i z : Nat} {s : DS} (h : PlanS m i z s) (ok : DOk s) (hz : z ≤ 1000) : ((crashS s [1000] (-1)).b 1).length = z ∧ (crashS s [1000] (-1)).off = false ∧ (crashS s [1000] (-1)).plan = -1 := by
  unfold crashS
  refine ⟨?_, rfl, rfl⟩
  simp only
  rw [if_neg (by omega)]
  simp only [calmS, firmS]
  by_cases e : s.b 1 = []
  · have hl : liveI s.b = [] := by
      refine List.eq_nil_iff_forall_not_mem.2 fun x hx => ?_
      have hx := (mem_liveI ok).1 hx
      by_cases e1 : x = 1
      · exact hx (e1 ▸ e)
      · exact hx (h.b x e1)
    rw [hl]
    exact h.len
  · have hl : liveI s.b = [1] := by
      have h1 : ∀ x, x ∈ liveI s.b ↔ x = 1 := fun x => by
        rw [mem_liveI ok]
        constructor
        · intro hx
          by_cases e1 : x = 1
          · exact e1
          · exact absurd (h.b x e1) hx
        · intro hx; rw [hx]; exact e
      have h2 := liveI_nodup s.b
      cases hq : liveI s.b with
      | nil => have := (h1 1).2 rfl; rw [hq] at this; simp at this
      | cons a r =>
        rw [hq] at h1 h2
        have ha := (h1 a).1 (by simp)
        cases r with
        | nil => rw [ha]
        | cons c r =>
          have hc := (h1 c).1 (by simp)
          rw [ha, hc] at h2
          simp at h2
    rw [hl]
    simp only [loseF, cutS, upd_same, List.length_take]
    have hf := ok.firm 1
    have hk : s.firm 1 + keptF s [1000] 0 1 = z := by
      unfold keptF
      simp only [List.getElem?_cons_zero]
      rw [h.len] at hf ⊢
      omega
    rw [hk, h.len]
    omega
theorem PlanS.zero (m : Nat) : PlanS m 0 0 (armS (newS 1000) m) := by
  have : armS (newS 1000) m = { newS 1000 with plan := m } := by
    unfold armS
    rw [if_neg (by simp [newS])]
    congr 1
    omega
  rw [this]
  refine ⟨rfl, ?_, fun _ _ => rfl, rfl, rfl, Nat.le_refl _⟩
  rw [if_pos (Nat.zero_le _)]
  simp
end Go.Proofs.Ythcicfolabngcaa
