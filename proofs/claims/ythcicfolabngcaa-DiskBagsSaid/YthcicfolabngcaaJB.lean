/- Lemmas of the claim, joined: RH RI DOne HA HB HE. No condition. -/
import Derived.Test.YthcicfolabngcaaJA
import Derived.RangeFuncNested
import Derived.RangeFuncBound
import Derived.RangeFuncCalls
import Derived.RangeFuncLeaves
import Derived.RangeFuncFrom
import Derived.Shelf.Abstract
import Derived.Shelf.RegionOpen
import Derived.WalkKit
import Derived.OwnWalkIn
import Derived.TacticsInMore
import Derived.LoopNIn
import Derived.LoopIn
import Derived.Laws.Bits64b
import Derived.Test.YthcicfolabngcaaChecked
import Derived.RangeFuncBox
import Derived.Lib.ConvBytes
/- Plain laws: Decode leads back from Encode, and what Decode accepts is an encoding. -/
namespace Go.Proofs.Ythcicfolabngcaa

theorem rdIS_uv (n : Int) (r : List Int) (h1 : -9223372036854775808 ≤ n) (h2 : n ≤ 9223372036854775807) : rdIS (uv (zig n) ++ r) 0 = (n, r, 0) := by
  have := rdU_uv (zig n) 0 0 r (by omega) (fun h => absurd h (by omega)) (by have := zig_lt n h1 h2; simpa using this)
  simp only [Nat.pow_zero, Nat.mul_one, Nat.zero_add] at this
  simp only [rdIS, rdUS, ne_eq, not_true_eq_false, if_false, this, Int.toNat_natCast, unzig_zig]
theorem rdIS_back {r r' : List Int} {e : Int} {x : Int} (hb : ∀ z ∈ r, 0 ≤ z ∧ z ≤ 255) (h : rdIS r e = (x, r', 0)) : e = 0 ∧ r = uv (zig x) ++ r' := by
  by_cases he : e = 0
  · subst he
    refine ⟨rfl, ?_⟩
    simp only [rdIS, rdUS, ne_eq, not_true_eq_false, if_false, Int.toNat_natCast, Prod.mk.injEq] at h
    obtain ⟨h1, h2, h3⟩ := h
    obtain ⟨u, hu, hl, _, _⟩ := rdU_back r 0 0 (rdU 0 0 r).1 r' hb (by omega) (by decide) (by rw [← h2, ← h3])
    rw [← h1, zig_unzig, hu]
    simpa using hl
  · simp only [rdIS, rdUS, he, ne_eq, not_false_eq_true, if_true, Prod.mk.injEq] at h
    exact h.2.2.elim
theorem decF_enc : ∀ (d : List (Int × Int)) (r : List Int), (∀ x ∈ d, (-9223372036854775808 ≤ x.1 ∧ x.1 ≤ 9223372036854775807) ∧ (-9223372036854775808 ≤ x.2 ∧ x.2 ≤ 9223372036854775807)) → decF d.length (encF d ++ r) 0 = (d, r, 0)
  | [], r, _ => rfl
  | (x, y) :: d, r, h => by
    have hx := h (x, y) List.mem_cons_self
    have e1 := rdIS_uv x (uv (zig y) ++ (encF d ++ r)) hx.1.1 hx.1.2
    have e2 := rdIS_uv y (encF d ++ r) hx.2.1 hx.2.2
    have ih := decF_enc d r (fun z hz => h z (List.mem_cons_of_mem _ hz))
    simp only [List.length_cons, decF, encF, List.append_assoc, e1, e2, ih]
theorem decF_back : ∀ (k : Nat) (r r' : List Int) (e : Int) (d : List (Int × Int)), (∀ z ∈ r, 0 ≤ z ∧ z ≤ 255) → decF k r e = (d, r', 0) → e = 0 ∧ r = encF d ++ r' ∧ d.length = k
  | 0, r, r', e, d, _, h => by
    simp only [decF, Prod.mk.injEq] at h
    obtain ⟨rfl, rfl, rfl⟩ := h
    exact ⟨rfl, rfl, rfl⟩
  | k + 1, r, r', e, d, hb, h => by
    cases ha : rdIS r e with
    | mk x a =>
      obtain ⟨r1, e1⟩ := a
      cases hc : rdIS r1 e1 with
      | mk y a =>
        obtain ⟨r2, e2⟩ := a
        simp only [decF, ha, hc, Prod.mk.injEq] at h
        obtain ⟨h1, h2⟩ := h
        have hd : decF k r2 e2 = ((decF k r2 e2).1, r', 0) := by rw [← h2]
        have sub : ∀ (s s' : List Int) (f f' : Int) (v : Int), rdIS s f = (v, s', f') → ∀ z ∈ s', z ∈ s := by
          intro s s' f f' v hv z hz
          simp only [rdIS, rdUS] at hv
          split at hv
          · simp only [Prod.mk.injEq] at hv; rw [hv.2.1]; exact hz
          · simp only [Prod.mk.injEq] at hv
            rw [← hv.2.1] at hz
            exact rdU_sub s 0 0 z hz
        have hb1 : ∀ z ∈ r1, 0 ≤ z ∧ z ≤ 255 := fun z hz => hb z (sub _ _ _ _ _ ha z hz)
        have hb2 : ∀ z ∈ r2, 0 ≤ z ∧ z ≤ 255 := fun z hz => hb1 z (sub _ _ _ _ _ hc z hz)
        obtain ⟨f1, f2, f3⟩ := decF_back k r2 r' e2 _ hb2 hd
        subst f1
        obtain ⟨g1, g2⟩ := rdIS_back hb1 hc
        subst g1
        obtain ⟨k1, k2⟩ := rdIS_back hb ha
        refine ⟨k1, ?_, by rw [← h1]; simp [f3]⟩
        rw [k2, g2, f2, ← h1]
        simp [encF]
where
  rdU_sub : ∀ (s : List Int) (i n : Nat) (z : Int), z ∈ (rdU i n s).2.1 → z ∈ s
    | [], i, n, z, h => by simp [rdU] at h
    | b :: s, i, n, z, h => by
      rw [rdU] at h
      split at h
      · exact List.mem_cons_of_mem _ h
      · split at h
        · exact List.mem_cons_of_mem _ h
        · exact List.mem_cons_of_mem _ (rdU_sub s _ _ z h)

/-- the numbers of the items from k on, of which amounts are given -/
def unam : Nat → Nat → List (Int × Int) → List Int
  | _, 0, _ => []
  | k, r + 1, [] => 0 :: unam (k + 1) r []
  | k, r + 1, (x, y) :: d => if x = (k : Int) then y :: unam (k + 1) r d else 0 :: unam (k + 1) r ((x, y) :: d)
theorem unam_len : ∀ (r k : Nat) (d : List (Int × Int)), (unam k r d).length = r
  | 0, _, _ => by simp [unam]
  | r + 1, k, [] => by simp [unam, unam_len r]
  | r + 1, k, (x, y) :: d => by simp only [unam]; split <;> simp [unam_len r]
theorem unam_facts (N : Int) : ∀ (r k : Nat) (d : List (Int × Int)), validF N ((k : Int) - 1) d = true → N = ((k + r : Nat) : Int) → amF k (unam k r d) = d ∧ ∀ x ∈ unam k r d, 0 ≤ x ∧ x ≤ 1099511627776
  | 0, k, [], _, _ => ⟨rfl, by simp [unam]⟩
  | 0, k, (x, y) :: d, h, hN => by
    simp only [validF, properB, Bool.and_eq_true, decide_eq_true_eq] at h
    omega
  | r + 1, k, [], _, hN => by
    obtain ⟨h1, h2⟩ := unam_facts N r (k + 1) [] rfl (by omega)
    refine ⟨by simp only [unam, amF]; simpa using h1, fun x hx => ?_⟩
    simp only [unam, List.mem_cons] at hx
    rcases hx with rfl | hx
    · omega
    · exact h2 x hx
  | r + 1, k, (x, y) :: d, h, hN => by
    have h' := h
    simp only [validF, properB, Bool.and_eq_true, decide_eq_true_eq] at h'
    by_cases hx : x = (k : Int)
    · obtain ⟨h1, h2⟩ := unam_facts N r (k + 1) d (by rw [show (((k + 1 : Nat) : Int) - 1) = x by omega]; exact h'.2.2) (by omega)
      refine ⟨?_, fun z hz => ?_⟩
      · simp only [unam, if_pos hx, amF]
        rw [if_pos (by omega), h1, hx]
      · simp only [unam, if_pos hx, List.mem_cons] at hz
        rcases hz with rfl | hz
        · omega
        · exact h2 z hz
    · have hv : validF N (((k + 1 : Nat) : Int) - 1) ((x, y) :: d) = true := by
        simp only [validF, properB, Bool.and_eq_true, decide_eq_true_eq]
        exact ⟨h'.1, by omega, h'.2.2⟩
      obtain ⟨h1, h2⟩ := unam_facts N r (k + 1) ((x, y) :: d) hv (by omega)
      refine ⟨?_, fun z hz => ?_⟩
      · simp only [unam, if_neg hx, amF]
        rw [if_neg (by omega)]; exact h1
      · simp only [unam, if_neg hx, List.mem_cons] at hz
        rcases hz with rfl | hz
        · omega
        · exact h2 z hz
/-- amounts that are valid are those of a bag -/
theorem valid_bag {N : Int} {d : List (Int × Int)} (h : validS N d = true) : ∃ l, isBagB l = true ∧ (l.length : Int) = N ∧ amountsS l = d ∧ ofS N d = (l, 0) := by
  simp only [validS, Bool.and_eq_true, decide_eq_true_eq] at h
  obtain ⟨⟨hN0, hN1⟩, hv⟩ := h
  obtain ⟨m, rfl⟩ : ∃ m : Nat, N = m := ⟨N.toNat, by omega⟩
  obtain ⟨h1, h2⟩ := unam_facts m m 0 d (by simpa using hv) (by omega)
  have hlen := unam_len m 0 d
  have hbag : isBagB (unam 0 m d) = true := isBag_iff.2 ⟨by omega, h2⟩
  have ha : amountsS (unam 0 m d) = d := by simp [amountsS, hbag, h1]
  have hf := (lists_facts hbag).1
  rw [ha, hlen] at hf
  exact ⟨unam 0 m d, hbag, by omega, ha, hf⟩

theorem decode_encode {l : List Int} (h : isBagB l = true) : decodeS (encodeS l) = (l, 0) := by
  obtain ⟨hl, hm⟩ := isBag_iff.1 h
  obtain ⟨f1, f2⟩ := lists_facts h
  have hal : (amountsS l).length ≤ l.length := by have := amF_len l 0; simp [amountsS, h]; exact this
  have hr : ∀ x ∈ amountsS l, (-9223372036854775808 ≤ x.1 ∧ x.1 ≤ 9223372036854775807) ∧ (-9223372036854775808 ≤ x.2 ∧ x.2 ≤ 9223372036854775807) := by
    intro x hx
    have hv := f2
    simp only [validS, Bool.and_eq_true] at hv
    have hp := properF_amF hv.2
    have := (List.all_eq_true.1 hp) x hx
    simp only [properB, Bool.and_eq_true, decide_eq_true_eq] at this
    omega
  have e0 : encodeS l = uv (zig l.length) ++ (uv (zig (amountsS l).length) ++ (encF (amountsS l) ++ [])) := by simp [encodeS, h]
  have e1 := rdIS_uv l.length (uv (zig (amountsS l).length) ++ (encF (amountsS l) ++ [])) (by omega) (by omega)
  have e2 := rdIS_uv (amountsS l).length (encF (amountsS l) ++ []) (by omega) (by omega)
  have e3 := decF_enc (amountsS l) [] hr
  simp only [decodeS, e0, e1, e2, Int.toNat_natCast, e3]
  rw [if_neg (by omega), if_neg]
  · exact f1
  · rintro (h | h)
    · simp [endS] at h
    · rw [f2] at h; cases h
theorem decode_any {c : List Int} (hb : ∀ z ∈ c, 0 ≤ z ∧ z ≤ 255) : ((decodeS c).2 = 2 ∧ (decodeS c).1 = []) ∨ ((decodeS c).2 = 0 ∧ encodeS (decodeS c).1 = c) := by
  cases ha : rdIS c 0 with
  | mk N a =>
    obtain ⟨r1, e1⟩ := a
    cases hc : rdIS r1 e1 with
    | mk M a =>
      obtain ⟨r2, e2⟩ := a
      cases hd : decF M.toNat r2 e2 with
      | mk d a =>
        obtain ⟨r3, e3⟩ := a
        have hS : decodeS c = if N < 0 ∨ 64 < N ∨ M < 0 ∨ N < M then ([], 2) else if endS r3 e3 ≠ 0 ∨ validS N d = false then ([], 2) else ofS N d := by
          simp only [decodeS, ha, hc, hd]
        by_cases c1 : N < 0 ∨ 64 < N ∨ M < 0 ∨ N < M
        · rw [hS, if_pos c1]; exact .inl ⟨rfl, rfl⟩
        · rw [if_neg c1] at hS
          by_cases c2 : endS r3 e3 ≠ 0 ∨ validS N d = false
          · rw [hS, if_pos c2]; exact .inl ⟨rfl, rfl⟩
          · rw [if_neg c2] at hS
            have hv : validS N d = true := by
              cases hv : validS N d
              · exact absurd (.inr hv) c2
              · rfl
            have he : endS r3 e3 = 0 := Classical.byContradiction fun h => c2 (.inl h)
            have hee : e3 = 0 ∧ r3 = [] := by
              unfold endS at he
              split at he
              · rename_i h; exact absurd he h
              · rename_i h
                have h0 : e3 = 0 := Classical.byContradiction h
                split at he
                · rename_i h2; exact ⟨h0, h2⟩
                · simp at he
            obtain ⟨rfl, rfl⟩ := hee
            have sub : ∀ (s s' : List Int) (f f' : Int) (v : Int), rdIS s f = (v, s', f') → ∀ z ∈ s', z ∈ s := by
              intro s s' f f' v hv z hz
              simp only [rdIS, rdUS] at hv
              split at hv
              · simp only [Prod.mk.injEq] at hv; rw [hv.2.1]; exact hz
              · simp only [Prod.mk.injEq] at hv
                rw [← hv.2.1] at hz
                exact decF_back.rdU_sub s 0 0 z hz
            have hb1 : ∀ z ∈ r1, 0 ≤ z ∧ z ≤ 255 := fun z hz => hb z (sub _ _ _ _ _ ha z hz)
            have hb2 : ∀ z ∈ r2, 0 ≤ z ∧ z ≤ 255 := fun z hz => hb1 z (sub _ _ _ _ _ hc z hz)
            obtain ⟨f1, f2, f3⟩ := decF_back _ _ _ _ _ hb2 hd
            subst f1
            obtain ⟨g1, g2⟩ := rdIS_back hb1 hc
            subst g1
            obtain ⟨_, k2⟩ := rdIS_back hb ha
            obtain ⟨l, hl1, hl2, hl3, hl4⟩ := valid_bag hv
            right
            rw [hS, hl4]
            refine ⟨rfl, ?_⟩
            simp only [encodeS, hl1, if_true, hl3]
            rw [k2, g2, f2, hl2, f3, show ((M.toNat : Nat) : Int) = M by omega]
            simp
end Go.Proofs.Ythcicfolabngcaa
/- A row of the call's own whose elements are slices of bytes. -/
namespace Go.Proofs.Ythcicfolabngcaa
open Go.RowKit

/-- bytes that lie in a block of bytes -/
structure Byt (w : World) (A : Option Addr) (n c : Nat) (l : List Int) : Prop where
  nums : Nums .u8 w A n c l
  blk : ∀ b o, A = some ⟨b, o, none⟩ → 0 < n → ∃ cs fr, w.heap[b]? = some (.cells cs 5 fr)
theorem Own.byt {w : World} {base : Nat} {A : Option Addr} {n c : Nat} {l : List Int} (h : Own .u8 5 w base A n c l) : Byt w A n c l := by
  refine ⟨h.reads, fun b o hA hn => ?_⟩
  obtain ⟨_, ⟨_, a2⟩, _⟩ := h
  rcases a2 with ⟨hv, h0⟩ | ⟨g, cap, cur, hv, _, hh, _⟩
  · omega
  · injection hv with e1
    rw [hA] at e1
    injection e1 with e1
    injection e1 with e1
    subst e1
    exact ⟨_, _, hh⟩
theorem Byt.e {w w' : World} {A : Option Addr} {n c : Nat} {l : List Int} (h : Byt w A n c l) (hE : E w w') : Byt w' A n c l :=
  ⟨h.nums.e hE, fun b o hA hn => by
    obtain ⟨cs, fr, hb⟩ := h.blk b o hA hn
    exact ⟨cs, fr, by rw [hE.block (blk_lt hb)]; exact hb⟩⟩
theorem Byt.far {w w' : World} {A : Option Addr} {n c : Nat} {l : List Int} {row : Option Nat} (h : Byt w A n c l) (hG : w.grownBy w' row) (hrow : ∀ g, row = some g → ∃ cs fr, w.heap[g]? = some (.cells cs 27 fr)) : Byt w' A n c l := by
  have key : ∀ b o, A = some ⟨b, o, none⟩ → 0 < n → w'.heap[b]? = w.heap[b]? := fun b o hA hn => by
    obtain ⟨cs, fr, hb⟩ := h.blk b o hA hn
    refine hG.block b (blk_lt hb) (fun e => ?_)
    obtain ⟨cs', fr', hb'⟩ := hrow b e.symm
    rw [hb] at hb'
    injection hb' with hb'
    injection hb' with _ ht
    exact absurd ht (by decide)
  refine ⟨⟨h.nums.len, h.nums.cap, h.nums.mx, h.nums.wf, fun hn => ?_⟩, fun b o hA hn => ?_⟩
  · obtain ⟨b, o, h1, h2, h3⟩ := h.nums.at_ hn
    refine ⟨b, o, h1, Nat.lt_of_lt_of_le h2 hG.size, fun i hi => ?_⟩
    rw [← h3 i hi]
    exact World.cell?_of_block (key b o h1 hn)
  · obtain ⟨cs, fr, hb⟩ := h.blk b o hA hn
    exact ⟨cs, fr, by rw [key b o hA hn]; exact hb⟩
theorem Byt.take {w : World} {A : Option Addr} {n c : Nat} {l : List Int} (h : Byt w A n c l) {m : Nat} (hm : m ≤ n) : Byt w A m c (l.take m) := by
  have htl : (l.take m).length = m := by rw [List.length_take, h.nums.len]; omega
  refine ⟨⟨htl, by have := h.nums.cap; omega, h.nums.mx, fun x hx => h.nums.wf x (List.mem_of_mem_take hx), fun h0 => ?_⟩, fun b o hA h0 => h.blk b o hA (by omega)⟩
  obtain ⟨b, o, h1, h2, h3⟩ := h.nums.at_ (by omega)
  refine ⟨b, o, h1, h2, fun i hi => ?_⟩
  rw [List.getElem_take]
  exact h3 i (by rw [htl] at hi; rw [h.nums.len]; omega)

/-- a row of the call's own of n slices of bytes, each of at most 100000 bytes -/
def OwnB (w : World) (base : Nat) (A : Option Addr) (n c : Nat) : Prop :=
  ∃ xs : List Value, w.ownsRow base 27 1 (.slice A n c) n xs ∧ ∀ v ∈ xs, ∃ A' n' c' l, v = .slice A' n' c' ∧ Byt w A' n' c' l ∧ n' ≤ 100000
theorem ownB_row {w : World} {base : Nat} {A : Option Addr} {n c : Nat} {xs : List Value} (h : w.ownsRow base 27 1 (.slice A n c) n xs) : ∀ g, (Value.slice A n c).ownBlock = some g → ∃ cs fr, w.heap[g]? = some (.cells cs 27 fr) := by
  intro g hg
  rcases h.2 with ⟨hv, _⟩ | ⟨g', cap, cur, hv, _, hh, _⟩
  · rw [hv] at hg; simp [Value.ownBlock] at hg
  · rw [hv] at hg
    have : g' = g := by simpa [Value.ownBlock] using hg
    subst this
    exact ⟨_, _, hh⟩
theorem OwnB.e {w w' : World} {base : Nat} {A : Option Addr} {n c : Nat} (h : OwnB w base A n c) (hE : E w w') : OwnB w' base A n c := by
  obtain ⟨xs, h1, h2⟩ := h
  refine ⟨xs, ⟨h1.1, ?_⟩, fun v hv => ?_⟩
  · rcases h1.2 with a2 | ⟨g, cap, cur, hv, hb, hh, r⟩
    · exact .inl a2
    · exact .inr ⟨g, cap, cur, hv, hb, by rw [hE.block (blk_lt hh)]; exact hh, r⟩
  · obtain ⟨A', n', c', l, e, hB, hn⟩ := h2 v hv
    exact ⟨A', n', c', l, e, hB.e hE, hn⟩
theorem OwnB.get {w : World} {base : Nat} {A : Option Addr} {n c : Nat} (h : OwnB w base A n c) {i : Nat} (hi : i < n) :
    ∃ g A' n' c' l, A = some ⟨g, 0, none⟩ ∧ g < w.heap.size ∧ w.cell? ⟨g, i, none⟩ = some (.slice A' n' c') ∧ Byt w A' n' c' l ∧ n' ≤ 100000 := by
  obtain ⟨xs, h1, h2⟩ := h
  have hl : i < xs.length := by have := h1.1; omega
  obtain ⟨A', n', c', l, e, hB, hn⟩ := h2 _ (List.getElem_mem hl)
  have h1' := h1
  rcases h1.2 with ⟨_, h0⟩ | ⟨g, cap, cur, hv, hb, hh, r⟩
  · omega
  · injection hv with e1 e2 e3
    subst e1 e3
    refine ⟨g, A', n', c', l, rfl, blk_lt hh, ?_, hB, hn⟩
    rw [World.ownsRow.cellAt h1' i (by omega), List.getElem?_eq_getElem hl, e]
/-- codes = append(codes, a, b) -/
theorem wpList_appB {P : Program} {S : TypeId} (hund : P.underlying S = some (.slice 27)) (hinfo : (P.info? 27).map (fun i => (i.zero, i.size, i.bytes)) = some (some (.slice none 0 0), 1, 24)) (w : World) {ops : Array Oper} {rest : List Oper} {o : Oper} {a : Act} {Q : Exit → Act → World → Prop} (hgd : o.guard = none) (s x : Operand)
    (ho : o.op = .call { callee := .builtin .append, args := #[s, x], argTypes := #[S, S] })
    (base : Nat) (A : Option Addr) (n c : Nat) (hs : a.eval s = .slice A n c) (hown : OwnB w base A n c)
    (A1 A2 : Option Addr) (n1 c1 n2 c2 : Nat) (l1 l2 : List Int) (hx : a.eval x = .slice (some ⟨w.heap.size, 0, none⟩) 2 2) (h1 : Byt w A1 n1 c1 l1) (h2 : Byt w A2 n2 c2 l2) (hn1 : n1 ≤ 100000) (hn2 : n2 ≤ 100000)
    (hlen : n ≤ 1000) (hbase : base ≤ w.heap.size)
    (h : ∀ A' c' w', OwnB w' base A' (n + 2) c' → Below base w w' → wpList P ops Q rest (a.put o.dst (.slice A' (n + 2) c')) w') :
    wpList P ops Q (o :: rest) a (w.alloc (.cells #[.slice A1 n1 c1, .slice A2 n2 c2] 27)) := by
  obtain ⟨i, hi, hz0, hz1, hz2⟩ := info_parts hinfo
  have hE := (E.refl w).alloc (.cells #[.slice A1 n1 c1, .slice A2 n2 c2] 27)
  obtain ⟨xs, hr, hall⟩ := hown.e hE
  obtain ⟨xs0, hr0, _⟩ := hown
  have b1 := h1.e hE
  have b2 := h2.e hE
  refine wpList_plain hgd fun K hK' => ?_
  obtain ⟨v', w', hrun, g2, g3, g4, g5⟩ := run_append_own_at (P := P) (w.alloc (.cells #[.slice A1 n1 c1, .slice A2 n2 c2] 27)) base S o.type 27 i _ 1 24 hund hi hz0 hz1 hz2 rfl (by decide) _ n _ hr ⟨w.heap.size, 0, none⟩ 2 2 [.slice A1 n1 c1, .slice A2 n2 c2] rfl
    (by intro j u hu
        have hc := fun jj => cell_of_row _ w.heap.size jj _ _ _ (heap_alloc_new w (.cells #[.slice A1 n1 c1, .slice A2 n2 c2] 27))
        match j with
        | 0 => simp at hu; subst hu; exact hc 0
        | 1 => simp at hu; subst hu; exact hc 1
        | j + 2 => simp at hu)
    (by intro u hu; simp at hu; rcases hu with rfl | rfl <;> rfl) (by unfold maxLen; omega) (by omega) (by simp; omega)
  unfold Oper.wp execOp
  simp only [ho, resolve, invoke, builtin, Sem.run_bind, Sem.run_pure, Result.andThen_ok, List.map_toArray, List.map_cons, List.map_nil, hs, hx, hrun]
  have hG' := grown_of_alloc g3
  rcases g2.2 with ⟨_, h0⟩ | ⟨g', c', cur, rfl, _⟩
  · omega
  · refine hK' _ _ (h _ c' w' ⟨xs ++ [.slice A1 n1 c1, .slice A2 n2 c2], g2, fun v hv => ?_⟩ ((Below.refl base w).grown hG' hbase (fun k hk => (World.ownsRow.lt hr0 k hk).1)))
    rcases List.mem_append.1 hv with hv | hv
    · obtain ⟨A', n', c'', l, e, hB, hn⟩ := hall v hv
      exact ⟨A', n', c'', l, e, hB.far g3 (ownB_row hr), hn⟩
    · simp at hv
      rcases hv with rfl | rfl
      · exact ⟨A1, n1, c1, l1, rfl, b1.far g3 (ownB_row hr), hn1⟩
      · exact ⟨A2, n2, c2, l2, rfl, b2.far g3 (ownB_row hr), hn2⟩
end Go.Proofs.Ythcicfolabngcaa
/- A disk of which one file alone bears bytes; what a crash leaves of every file: plain. -/
namespace Go.Proofs.Ythcicfolabngcaa

/-- file f alone bears bytes; the power is on, nothing is planned -/
structure OneS (f room : Int) (all : List Int) (firm : Nat) (s : DS) : Prop where
  b : ∀ j, j ≠ f → s.b j = []
  at_ : s.b f = all
  firm : s.firm f = firm
  off : s.off = false
  plan : s.plan = -1
  room : s.room = room
theorem OneS.used {f room : Int} {all : List Int} {firm : Nat} {s : DS} (h : OneS f room all firm s) (hf : isF f = true) : usedF s.b = all.length := by
  have h1 : s.b = upd (fun _ => []) f (s.b f) := by
    funext j
    by_cases e : j = f
    · rw [e, upd_same]
    · rw [upd_other _ _ e]; exact h.b j e
  have := usedF_upd (fun _ => []) (i := f) (s.b f) hf
  rw [← h1, usedF_nil] at this
  simp at this
  rw [this, h.at_]
theorem OneS.stay {f room : Int} {all : List Int} {firm : Nat} {s : DS} (h : OneS f room all firm s) : stepS s = s := by
  unfold stepS; rw [if_pos (by rw [h.plan]; decide)]
theorem OneS.zero (f room : Int) : OneS f room [] 0 (newS room) := ⟨fun _ _ => rfl, rfl, rfl, rfl, rfl, rfl⟩
theorem OneS.app {f room : Int} {all : List Int} {firm : Nat} {s : DS} (h : OneS f room all firm s) (hf : isF f = true) (l : List Int) (hl : ((all.length + l.length : Nat) : Int) ≤ room) :
    (appR s f l).1 = 0 ∧ OneS f room (all ++ l) firm (appR s f l).2 := by
  unfold appR
  rw [if_neg (by rw [hf]; decide), if_neg (by rw [h.off]; decide), if_neg (by rw [h.used hf, h.room]; omega), h.stay, if_neg (by rw [h.off]; decide)]
  refine ⟨rfl, ⟨fun j hj => ?_, ?_, h.firm, h.off, h.plan, h.room⟩⟩
  · simp only [appS]; rw [upd_other _ _ hj]; exact h.b j hj
  · simp only [appS, upd_same, h.at_]
theorem OneS.sync {f room : Int} {all : List Int} {firm : Nat} {s : DS} (h : OneS f room all firm s) : OneS f room all all.length (syncR s).2 := by
  unfold syncR
  rw [if_neg (by rw [h.off]; decide), h.stay, if_neg (by rw [h.off]; decide)]
  exact ⟨h.b, h.at_, by show (s.b f).length = _; rw [h.at_], h.off, h.plan, h.room⟩
theorem OneS.live {f room : Int} {all : List Int} {firm : Nat} {s : DS} (h : OneS f room all firm s) (ok : DOk s) : liveI s.b = if all = [] then [] else [f] := by
  have h1 : ∀ x, x ∈ liveI s.b ↔ x = f ∧ all ≠ [] := fun x => by
    rw [mem_liveI ok]
    constructor
    · intro hx
      by_cases e1 : x = f
      · exact ⟨e1, by rw [← h.at_, ← e1]; exact hx⟩
      · exact absurd (h.b x e1) hx
    · rintro ⟨rfl, hx⟩; rw [h.at_]; exact hx
  have h2 := liveI_nodup s.b
  cases hq : liveI s.b with
  | nil =>
    by_cases e : all = []
    · rw [if_pos e]
    · have := (h1 f).2 ⟨rfl, e⟩; rw [hq] at this; simp at this
  | cons a r =>
    rw [hq] at h1 h2
    have ha := (h1 a).1 (by simp)
    rw [if_neg ha.2]
    cases r with
    | nil => rw [ha.1]
    | cons c r =>
      have hc := (h1 c).1 (by simp)
      rw [ha.1, hc.1] at h2
      simp at h2
/-- what is left: n bytes, and in one of the loose ones a bit is inverted, if it is said so -/
def LeftS (all : List Int) (firm n : Nat) (inv : Bool) (y : List Int) : Prop :=
  if inv = true then ∃ pos p v, p < 8 ∧ firm ≤ pos ∧ pos < n ∧ all[pos]? = some v ∧ y = (all.take n).set pos (flipB v p) else y = all.take n
theorem crash_of {s s1 : DS} {keep : List Int} {flip : Int} {n : Nat} (h : loseF keep (liveI s.b) 0 (s, 0) = (s1, n)) : crashS s keep flip = calmS (if 0 ≤ flip ∧ 0 < n then invertF s1 (liveI s1.b) (flip % (8 * n : Nat)).toNat else s1) := by unfold crashS; rw [h]
theorem OneS.crash {f room : Int} {all : List Int} {firm : Nat} {s : DS} (h : OneS f room all firm s) (ok : DOk s) (keep flip : Int) :
    ∃ n : Nat, (n : Int) = firm + max 0 (min keep ((all.length : Int) - firm)) ∧ firm ≤ n ∧ n ≤ all.length ∧ (crashS s [keep] flip).off = false ∧ LeftS all firm n (decide (0 ≤ flip ∧ firm < n)) ((crashS s [keep] flip).b f) := by
  have hle : firm ≤ all.length := by have := ok.firm f; rwa [h.firm, h.at_] at this
  obtain ⟨k, hk⟩ : ∃ k : Nat, (k : Int) = max 0 (min keep ((all.length : Int) - firm)) := ⟨(max 0 (min keep ((all.length : Int) - firm))).toNat, by omega⟩
  refine ⟨firm + k, by omega, by omega, by omega, rfl, ?_⟩
  by_cases e : all = []
  · have hf0 : firm = 0 := by rw [e] at hle; simpa using hle
    have hk0 : k = 0 := by rw [e] at hk; simp at hk; omega
    rw [crash_of (s1 := s) (n := 0) (by rw [h.live ok, if_pos e]; rfl), if_neg (by omega)]
    show LeftS all firm (firm + k) _ (s.b f)
    unfold LeftS
    rw [if_neg (by simp; omega)]
    rw [h.at_, e]; simp
  · have hkf : keptF s [keep] 0 f = k := by
      unfold keptF
      simp only [List.getElem?_cons_zero]
      rw [h.firm, h.at_]; omega
    rw [crash_of (s1 := cutS s f (firm + k)) (n := k) (by rw [h.live ok, if_neg e]; simp only [loseF, hkf, h.firm, Nat.zero_add])]
    by_cases hc : 0 ≤ flip ∧ 0 < k
    · rw [if_pos hc]
      have hb1 : (cutS s f (firm + k)).b f = all.take (firm + k) := by simp only [cutS, upd_same, h.at_]
      have hf1 : (cutS s f (firm + k)).firm f = firm := by simp only [cutS, upd_same, h.firm]; omega
      have hl1 : (all.take (firm + k)).length = firm + k := by rw [List.length_take]; omega
      have hlv : liveI (cutS s f (firm + k)).b = [f] := by
        have := OneS.live (s := cutS s f (firm + k)) (f := f) (room := room) (all := all.take (firm + k)) (firm := firm) ⟨fun j hj => by simp only [cutS]; rw [upd_other _ _ hj]; exact h.b j hj, hb1, hf1, h.off, h.plan, h.room⟩ (ok.cut f _)
        rw [this, if_neg (fun e' => by rw [e'] at hl1; simp at hl1; omega)]
      rw [hlv]
      have hm := Int.emod_nonneg flip (show ((8 * k : Nat) : Int) ≠ 0 by omega)
      have hm2 := Int.emod_lt_of_pos flip (show (0 : Int) < ((8 * k : Nat) : Int) by omega)
      obtain ⟨bit, hbit⟩ : ∃ bit : Nat, (flip % ((8 * k : Nat) : Int)).toNat = bit := ⟨_, rfl⟩
      have hb8 : bit < 8 * k := by omega
      rw [hbit]
      simp only [invertF]
      rw [hb1, hf1, hl1, if_pos (by omega)]
      simp only [calmS, firmS, upd_same]
      unfold LeftS
      rw [if_pos (by simp; omega)]
      obtain ⟨v, hv⟩ : ∃ v, all[firm + bit / 8]? = some v := ⟨all[firm + bit / 8]'(by omega), List.getElem?_eq_getElem (by omega)⟩
      refine ⟨firm + bit / 8, bit % 8, v, by omega, by omega, by omega, hv, ?_⟩
      rw [List.getD_eq_getElem?_getD, List.getElem?_take_of_lt (by omega), hv]
      rfl
    · rw [if_neg hc]
      unfold LeftS
      rw [if_neg (by simp; omega)]
      simp only [calmS, firmS, cutS, upd_same, h.at_]
theorem LeftS.len {all y : List Int} {firm n : Nat} {inv : Bool} (h : LeftS all firm n inv y) (hn : n ≤ all.length) : y.length = n := by
  unfold LeftS at h
  split at h
  · obtain ⟨pos, p, v, _, _, _, _, rfl⟩ := h
    rw [List.length_set, List.length_take]; omega
  · rw [h, List.length_take]; omega
theorem LeftS.firm_ {all y : List Int} {firm n : Nat} {inv : Bool} (h : LeftS all firm n inv y) (hn : firm ≤ n) : y.take firm = all.take firm := by
  unfold LeftS at h
  split at h
  · obtain ⟨pos, p, v, _, h1, _, _, rfl⟩ := h
    rw [List.take_set_of_le (by omega), List.take_take, Nat.min_eq_left hn]
  · rw [h, List.take_take, Nat.min_eq_left hn]
end Go.Proofs.Ythcicfolabngcaa
/- hash.mix and the iterator of the words of a byte slice. -/
namespace Go.Proofs.Ythcicfolabngcaa
open Go.RowKit Go.Shelf
attribute [local go_sem] Oper.semAt_some

def mulF (a b : Int) : Int := IntKind.u64.wrap (bits .xor .u64 a b * 11400714819323198485)
def mixV (a b : Int) : Int := bits .xor .u64 (mulF a b) (mulF a b / 4294967296)
theorem wrapU_range (x : Int) : 0 ≤ IntKind.u64.wrap x ∧ IntKind.u64.wrap x ≤ 18446744073709551615 := by rw [IntKind.wrap_u64]; omega
theorem mulF_range (a b : Int) : 0 ≤ mulF a b ∧ mulF a b ≤ 18446744073709551615 := wrapU_range _
theorem bits_range (op : BinOp) (a b : Int) (h : op = .xor ∨ op = .or) : 0 ≤ bits op .u64 a b ∧ bits op .u64 a b ≤ 18446744073709551615 := by
  rcases h with rfl | rfl
  · exact wrapU_range _
  · exact wrapU_range _
theorem mixV_range (a b : Int) : 0 ≤ mixV a b ∧ mixV a b ≤ 18446744073709551615 := bits_range .xor _ _ (.inl rfl)

set_option maxHeartbeats 400000 in
theorem mix_c (a b : Int) (w : World) : Calls Try.prog 76 #[.int .u64 a, .int .u64 b] w fun e w' => e = .returned (.int .u64 (mixV a b)) ∧ w = w' := by
  obtain ⟨m, hm⟩ : ∃ m, IntKind.u64.wrap (bits .xor .u64 a b * 11400714819323198485) = m := ⟨_, rfl⟩
  have hr := wrapU_range (bits .xor .u64 a b * 11400714819323198485)
  rw [hm] at hr
  obtain ⟨m0, m1⟩ := hr
  have HM := Lib.hid (show mixV a b = bits .xor .u64 m (m / 4294967296) by rw [mixV, mulF, hm])
  generalize mixV a b = v at *
  go_enter Try.func76, Try.ntmps76
  go_wp2
  go_ret
  exact ⟨ret_int HM.out.symm, rfl⟩

/-- a word out of bytes, the first the lowest -/
def wordF (acc : Int) (i : Nat) : List Int → Int
  | [] => acc
  | c :: r => wordF (bits .or .u64 acc (IntKind.u64.wrap (c * 2 ^ (8 * i)))) (i + 1) r
def wordAt (bs : List Int) (k : Nat) : Int := wordF 0 0 ((bs.drop (8 * k)).take 8)
def nWords (n : Nat) : Nat := (n + 7) / 8
def wordsL (bs : List Int) : List Int := (List.range (nWords bs.length)).map (wordAt bs)
def uptoW (bs : List Int) (k : Nat) : List Int := (List.range k).map (wordAt bs)
theorem uptoW_succ (bs : List Int) (k : Nat) : uptoW bs (k + 1) = uptoW bs k ++ [wordAt bs k] := by simp [uptoW, List.range_succ]
theorem uptoW_len (bs : List Int) (k : Nat) : (uptoW bs k).length = k := by simp [uptoW]

/-- two blocks stay as they are -/
def K2 (b c : Nat) (W W' : World) : Prop := W'.heap[b]? = W.heap[b]? ∧ W'.heap[c]? = W.heap[c]?
theorem K2.refl (b c : Nat) (W : World) : K2 b c W W := ⟨rfl, rfl⟩
theorem K2.trans {b c : Nat} {A B C : World} (h : K2 b c A B) (k : K2 b c B C) : K2 b c A C := ⟨k.1.trans h.1, k.2.trans h.2⟩
theorem K2.cell1 {b c : Nat} {A B : World} (h : K2 b c A B) (o : Nat) : B.cell? ⟨b, o, none⟩ = A.cell? ⟨b, o, none⟩ := World.cell?_of_block h.1
theorem K2.cell2 {b c : Nat} {A B : World} (h : K2 b c A B) (o : Nat) : B.cell? ⟨c, o, none⟩ = A.cell? ⟨c, o, none⟩ := World.cell?_of_block h.2

set_option maxRecDepth 100000 in
set_option maxHeartbeats 2000000 in
/-- the closure: for every loop body that keeps what lay below n0 -/
theorem words1_in (F : Fence) (n : Nat) (h7 : F.fn 75) (hro : F.round = none) (hn : 1 ≤ n) (l Bs b off len cap : Nat) (bs : List Int) (hreach : len ≤ 1099511627776) (hlc : len ≤ cap) (hl : bs.length = len) (hwf : ∀ x ∈ bs, 0 ≤ x ∧ x ≤ 255) (J Jx : List Int → World → Prop)
    (hY : ∀ pre x W, J pre W → pre.length < nWords len → YieldAt F (n - 1) Try.prog l #[.int .u64 x] W fun e W' =>
      (e = .returned (.bool true) ∧ J (pre ++ [x]) W' ∧ K2 b Bs W W') ∨ (e = .returned (.bool false) ∧ Jx (pre ++ [x]) W'))
    (W : World) (hBs : W.cell? ⟨Bs, 0, none⟩ = some (.slice (some ⟨b, off, none⟩) len cap)) (hc : ∀ j x, bs[j]? = some x → W.cell? ⟨b, off + j, none⟩ = some (.int .u8 x)) (h0 : J [] W) :
    CallsIn F n Try.prog 75 #[.func (.yield l) #[] #[], .pointer (some ⟨Bs, 0, none⟩)] W fun e W' => (∃ v, e = .returned v) ∧
      ((∃ ys, ys = uptoW bs (nWords len) ∧ J ys W') ∨ (∃ pre, (∃ k, k ≤ nWords len ∧ pre = uptoW bs k) ∧ Jx pre W')) := by
  refine callsIn_of_wp Try.func75 rfl h7 ?_ hro
  simp only [Try.ntmps75, List.size_toArray, List.length_cons, List.length_nil, Nat.reduceAdd, Nat.reduceSub, Array.replicate_succ, Array.replicate_zero, List.push_toArray, List.append_toArray, List.nil_append, List.cons_append]
  gi_wp2
  have HC := Lib.hid hc
  have HW := Lib.hid hwf
  have HLb := Lib.hid hl
  clear hc hwf
  gi_loopw [3] (fun i wr => ∃ k p : Nat, k ≤ nWords len ∧ Hid (p = 8 * k) ∧ i = .int .i64 p ∧ J (uptoW bs k) wr ∧ K2 b Bs W wr)
    (fun i _ => len + 8 - (intOf i).toNat)
  case atStart => exact ⟨0, 0, Nat.zero_le _, rfl, rfl, h0, K2.refl _ _ _⟩
  case round =>
    obtain ⟨k, p, hk, HP, rfl, hJs, hnx⟩ := hrel
    have hBs' : wr.cell? ⟨Bs, 0, none⟩ = some (.slice (some ⟨b, off, none⟩) len cap) := (hnx.cell2 0).trans hBs
    have hp8 : p = 8 * k := HP.out
    have hpk : p ≤ len + 8 := by rw [hp8]; unfold nWords at hk; omega
    by_cases hlt : p < len
    · have hltI : (p : Int) < (len : Int) := by omega
      have hkn : k < nWords len := by unfold nWords; omega
      clear hp8
      by_cases h8 : p + 8 ≤ len
      · have h8I : (p : Int) + 8 ≤ (len : Int) := by omega
        gi_wp2
        gi_loopw [4, 22] (fun tv ti w2 => ∃ (j : Nat) (acc : Int), j ≤ 8 ∧ ti = .int .i64 j ∧ tv = .int .u64 acc ∧ 0 ≤ acc ∧ acc ≤ 18446744073709551615 ∧ Hid (wordF acc j (((bs.drop p).take 8).drop j) = wordAt bs k) ∧ w2 = wr) (fun _ ti _ => 8 - (intOf ti).toNat)
        case atStart => exact ⟨0, 0, Nat.zero_le _, rfl, rfl, by omega, by omega, show _ = _ by rw [HP.out]; rfl, rfl⟩
        case round =>
          obtain ⟨wq, hwq⟩ : ∃ wq : World, wq = wr := ⟨_, rfl⟩
          obtain ⟨j, acc, hj, rfl, rfl, a0, a1, hW, hw2⟩ := hrel
          subst hw2
          by_cases hjM : j < 8
          · obtain ⟨x, hx⟩ : ∃ x, bs[p + j]? = some x := ⟨bs[p + j]'(by omega), List.getElem?_eq_getElem (by omega)⟩
            obtain ⟨x0, x1⟩ := HW.out x (List.mem_of_getElem? hx)
            have hcx : wr.cell? ⟨b, off + p + j, none⟩ = some (.int .u8 x) := by
              rw [Nat.add_assoc]; exact (hnx.cell1 _).trans (HC.out _ x hx)
            have HD := Lib.hid (show ((bs.drop p).take 8).drop j = x :: ((bs.drop p).take 8).drop (j + 1) by
              refine drop_at ?_
              rw [List.getElem?_take_of_lt (by omega), List.getElem?_drop]; exact hx)
            obtain ⟨acc', hacc⟩ : ∃ a, bits .or .u64 acc (IntKind.u64.wrap (x * 2 ^ (8 * j))) = a := ⟨_, rfl⟩
            have hbr := bits_range .or acc (IntKind.u64.wrap (x * 2 ^ (8 * j))) (.inr rfl)
            rw [hacc] at hbr
            obtain ⟨br0, br1⟩ := hbr
            have HA' := Lib.hid hacc
            clear hx
            gi_wp2
            go_roundw
            case rel => exact ⟨j + 1, acc', by omega, by go_num, rfl, br0, br1, show _ = _ by rw [← hW.out, HD.out, wordF, HA'.out], by first | trivial | rfl⟩
            case measure => simp [intOf]; omega
          · have hword : acc = wordAt bs k := by
              rw [← hW.out, List.drop_eq_nil_of_le (by rw [List.length_take, List.length_drop]; omega)]; rfl
            clear hW
            obtain ⟨fn, tmps, assign, body, hy, hR⟩ := hY (uptoW bs k) acc wr hJs (by rw [uptoW_len]; exact hkn)
            have HWd := Lib.hid hword
            clear hword
            gi_wp2
            refine hR.mono ?_
            rintro e W3 (⟨rfl, hJ3, hk3⟩ | ⟨rfl, hJx3⟩)
            · gi_wp2
              go_roundw
              case rel => exact ⟨k + 1, p + 8, hkn, show _ = _ by rw [HP.out]; omega, by go_num, by rw [uptoW_succ, ← HWd.out]; exact hJ3, hnx.trans hk3⟩
              case measure => simp [intOf]; omega
            · gi_wp2
              refine bodyPost_ret (results_none rfl _ _ _) rfl ?_
              exact ⟨⟨_, rfl⟩, .inr ⟨_, ⟨k + 1, hkn, by rw [uptoW_succ, ← HWd.out]⟩, hJx3⟩⟩
      · have h8I : ¬ (p : Int) + 8 ≤ (len : Int) := by omega
        gi_wp2
        gi_loopw [4, 22] (fun tv ti w2 => ∃ (j : Nat) (acc : Int), j ≤ (len - p) ∧ ti = .int .i64 j ∧ tv = .int .u64 acc ∧ 0 ≤ acc ∧ acc ≤ 18446744073709551615 ∧ Hid (wordF acc j (((bs.drop p).take 8).drop j) = wordAt bs k) ∧ w2 = wr) (fun _ ti _ => (len - p) - (intOf ti).toNat)
        case atStart => exact ⟨0, 0, Nat.zero_le _, rfl, rfl, by omega, by omega, show _ = _ by rw [HP.out]; rfl, rfl⟩
        case round =>
          obtain ⟨wq, hwq⟩ : ∃ wq : World, wq = wr := ⟨_, rfl⟩
          obtain ⟨j, acc, hj, rfl, rfl, a0, a1, hW, hw2⟩ := hrel
          subst hw2
          by_cases hjM : j < (len - p)
          · obtain ⟨x, hx⟩ : ∃ x, bs[p + j]? = some x := ⟨bs[p + j]'(by omega), List.getElem?_eq_getElem (by omega)⟩
            obtain ⟨x0, x1⟩ := HW.out x (List.mem_of_getElem? hx)
            have hcx : wr.cell? ⟨b, off + p + j, none⟩ = some (.int .u8 x) := by
              rw [Nat.add_assoc]; exact (hnx.cell1 _).trans (HC.out _ x hx)
            have HD := Lib.hid (show ((bs.drop p).take 8).drop j = x :: ((bs.drop p).take 8).drop (j + 1) by
              refine drop_at ?_
              rw [List.getElem?_take_of_lt (by omega), List.getElem?_drop]; exact hx)
            obtain ⟨acc', hacc⟩ : ∃ a, bits .or .u64 acc (IntKind.u64.wrap (x * 2 ^ (8 * j))) = a := ⟨_, rfl⟩
            have hbr := bits_range .or acc (IntKind.u64.wrap (x * 2 ^ (8 * j))) (.inr rfl)
            rw [hacc] at hbr
            obtain ⟨br0, br1⟩ := hbr
            have HA' := Lib.hid hacc
            clear hx
            gi_wp2
            go_roundw
            case rel => exact ⟨j + 1, acc', by omega, by go_num, rfl, br0, br1, show _ = _ by rw [← hW.out, HD.out, wordF, HA'.out], by first | trivial | rfl⟩
            case measure => simp [intOf]; omega
          · have hword : acc = wordAt bs k := by
              rw [← hW.out, List.drop_eq_nil_of_le (by rw [List.length_take, List.length_drop]; omega)]; rfl
            clear hW
            obtain ⟨fn, tmps, assign, body, hy, hR⟩ := hY (uptoW bs k) acc wr hJs (by rw [uptoW_len]; exact hkn)
            have HWd := Lib.hid hword
            clear hword
            gi_wp2
            refine hR.mono ?_
            rintro e W3 (⟨rfl, hJ3, hk3⟩ | ⟨rfl, hJx3⟩)
            · gi_wp2
              go_roundw
              case rel => exact ⟨k + 1, p + 8, hkn, show _ = _ by rw [HP.out]; omega, by go_num, by rw [uptoW_succ, ← HWd.out]; exact hJ3, hnx.trans hk3⟩
              case measure => simp [intOf]; omega
            · gi_wp2
              refine bodyPost_ret (results_none rfl _ _ _) rfl ?_
              exact ⟨⟨_, rfl⟩, .inr ⟨_, ⟨k + 1, hkn, by rw [uptoW_succ, ← HWd.out]⟩, hJx3⟩⟩
    · have hke : k = nWords len := by unfold nWords at hk ⊢; omega
      clear hp8
      have HK := Lib.hid hke
      clear hke
      gi_wp2
      go_end0
      exact ⟨⟨_, rfl⟩, .inl ⟨_, rfl, by rw [← HK.out]; exact hJs⟩⟩

set_option maxRecDepth 100000 in
set_option maxHeartbeats 1000000 in
/-- no byte: no round -/
theorem words0_in (F : Fence) (n : Nat) (h7 : F.fn 75) (hro : F.round = none) (l Bs cap : Nat) (A : Option Addr) (J : List Int → World → Prop) (W : World) (hBs : W.cell? ⟨Bs, 0, none⟩ = some (.slice A 0 cap)) (h0 : J [] W) :
    CallsIn F n Try.prog 75 #[.func (.yield l) #[] #[], .pointer (some ⟨Bs, 0, none⟩)] W fun e W' => (∃ v, e = .returned v) ∧ J [] W' := by
  refine callsIn_of_wp Try.func75 rfl h7 ?_ hro
  simp only [Try.ntmps75, List.size_toArray, List.length_cons, List.length_nil, Nat.reduceAdd, Nat.reduceSub, Array.replicate_succ, Array.replicate_zero, List.push_toArray, List.append_toArray, List.nil_append, List.cons_append]
  gi_wp2
  gi_loopw [3] (fun i wr => i = .int .i64 0 ∧ wr = W) (fun _ _ => 0)
  case atStart => exact ⟨rfl, rfl⟩
  case round =>
    obtain ⟨rfl, rfl⟩ := hrel
    gi_wp2
    go_end0
    exact ⟨⟨_, rfl⟩, h0⟩
set_option maxHeartbeats 1000000 in
theorem wordsOf_in (F : Fence) (n : Nat) (h5 : F.fn 56) (hro : F.round = none) (a : Option Addr) (len cap : Nat) (w : World) :
    CallsIn F n Try.prog 56 #[.slice a len cap] w fun e w' => e = .returned (.func (.func 75) #[] #[.pointer (some ⟨w.heap.size, 0, none⟩)]) ∧ w' = w.alloc (.cells #[.slice a len cap] 27) := by
  refine callsIn_of_wp Try.func56 rfl h5 ?_ hro
  simp only [Try.ntmps56, List.size_toArray, List.length_cons, List.length_nil, Nat.reduceAdd, Nat.reduceSub, Array.replicate_succ, Array.replicate_zero, List.push_toArray, List.append_toArray, List.nil_append, List.cons_append]
  gi_wp2
  go_ret
  exact ⟨rfl, rfl⟩
/-- the block of a slice's bytes (the box itself where there is none) -/
def blkOf (A : Option Addr) (n Bs : Nat) : Nat := if n = 0 then Bs else (A.map (·.block)).getD Bs
theorem words_stops (F : Fence) (n : Nat) (h7 : F.fn 75) (hro : F.round = none) (hn : 1 ≤ n) (Bs : Nat) (A : Option Addr) (len cap : Nat) (bs : List Int) (hreach : len ≤ 1099511627776) (w : World) (hBs : Bs < w.heap.size)
    (hc : w.cell? ⟨Bs, 0, none⟩ = some (.slice A len cap)) (hI : Nums .u8 w A len cap bs) :
    SeqStopsK F n Try.prog 75 #[.pointer (some ⟨Bs, 0, none⟩)] (fun x : Int => #[Value.int .u64 x]) (K2 (blkOf A len Bs) Bs) (fun ys => ys = wordsL bs) (fun _ => True) (nWords len) w := fun l J Jx W hW _ _ hY h0 => by
  have hc' := (hW.cell (p := ⟨Bs, 0, none⟩) hBs).trans hc
  have hI' := hI.e hW
  rcases Nat.eq_zero_or_pos len with h0' | h0'
  · subst h0'
    have hb : bs = [] := List.eq_nil_of_length_eq_zero hI.len
    subst hb
    exact (words0_in F n h7 hro l Bs cap A J W hc' h0).mono fun e W' ⟨he, hj⟩ => ⟨he, .inl ⟨[], rfl, hj⟩⟩
  · obtain ⟨b, off, rfl, _, hcs⟩ := hI'.at_ h0'
    have hbk : blkOf (some ⟨b, off, none⟩) len Bs = b := by unfold blkOf; rw [if_neg (by omega)]; rfl
    rw [hbk] at hY
    refine (words1_in F n h7 hro hn l Bs b off len cap bs hreach hI.cap hI.len (fun x hx => wf_u8 (hI.wf x hx)) J Jx hY W hc' (fun j x hx => by
      obtain ⟨hj, rfl⟩ := List.getElem?_eq_some_iff.1 hx
      exact hcs j hj) h0).mono ?_
    rintro e W' ⟨he, ⟨ys, rfl, hj⟩ | ⟨pre, _, hj⟩⟩
    · exact ⟨he, .inl ⟨_, by rw [wordsL, hI.len]; rfl, hj⟩⟩
    · exact ⟨he, .inr ⟨_, trivial, hj⟩⟩
end Go.Proofs.Ythcicfolabngcaa
/- hash.Sum. -/
namespace Go.Proofs.Ythcicfolabngcaa
open Go.RowKit Go.Shelf
attribute [local go_sem] Oper.semAt_some

def bytS (s : ByteArray) : List Int := s.data.toList.map (fun b => (b.toNat : Int))
theorem bytS_len (s : ByteArray) : (bytS s).length = s.size := by simp [bytS]
def sumS (s : ByteArray) (l : List Int) : Int := mixV ((l.map IntKind.u64.wrap).foldl mixV (mixV (mixV ((wordsL (bytS s)).foldl mixV 0) s.size) (IntKind.u64.wrap l.length))) 0
theorem bytesWorld_e (w : World) (e : TypeId) (s : ByteArray) : E w (Lib.bytesWorld w e s) := by
  refine ⟨?_, ?_, ?_, ?_, ?_⟩
  · simp [Lib.bytesWorld, World.freeze, World.alloc, World.drew, -World.alloc_eq, -World.drew_eq]
  · simp [Lib.bytesWorld, World.freeze, World.alloc, World.drew, -World.alloc_eq, -World.drew_eq]
  · simp [Lib.bytesWorld, World.freeze, World.alloc, World.drew, -World.alloc_eq, -World.drew_eq]
  · rw [Lib.bytesWorld_size]; omega
  · intro b hb; exact Lib.bytesWorld_at_old w e s b hb
theorem bytesWorld_nums (w : World) (e : TypeId) (s : ByteArray) (hs : s.size ≤ 1000) : Nums .u8 (Lib.bytesWorld w e s) (some ⟨w.heap.size, 0, none⟩) s.size (grownCap w s.size 0 e) (bytS s) := by
  refine ⟨bytS_len s, grownCap_ge w _ _ _, grownCap_le_maxLen w _ _ _ (by unfold maxLen; omega), fun x hx => ?_, fun _ => ⟨_, 0, rfl, by rw [Lib.bytesWorld_size]; omega, fun i hi => ?_⟩⟩
  · obtain ⟨b, _, rfl⟩ := List.mem_map.1 hx
    have := b.toNat_lt
    exact WalkArith.wf_u8 ⟨by omega, by omega⟩
  · rw [bytS_len] at hi
    rw [Nat.zero_add, Lib.bytesWorld_cell w e s i hi]
    have : i < s.data.toList.length := by simpa using hi
    simp [bytS, List.getD_eq_getElem?_getD, List.getElem?_eq_getElem this]

theorem box_new (W : World) (v : Value) (t : TypeId) : (W.alloc (.cells #[v] t)).cell? ⟨W.heap.size, 0, none⟩ = some v ∧ (W.alloc (.cells #[v] t)).frozen? ⟨W.heap.size, 0, none⟩ = false := by
  have h := World.alloc_heap_new W (.cells #[v] t)
  constructor
  · unfold World.cell?; dsimp only; rw [h]; rfl
  · unfold World.frozen?; dsimp only; rw [h]; rfl
theorem K2.put {b c : Nat} (W : World) (l : Nat) (o' : Obj) (hb : b ≠ l) (hc : c ≠ l) : K2 b c W (W.putObj l o') := ⟨World.putObj_heap_other hb, World.putObj_heap_other hc⟩
theorem K2.set {b c : Nat} (W : World) (a : Addr) (v : Value) (hb : b ≠ a.block) (hc : c ≠ a.block) : K2 b c W (W.setCell a v) := ⟨Below.heap_setCell _ _ _ _ hb, Below.heap_setCell _ _ _ _ hc⟩
theorem blkOf_cases (b n Bs : Nat) : blkOf (some ⟨b, 0, none⟩) n Bs = Bs ∨ blkOf (some ⟨b, 0, none⟩) n Bs = b := by
  unfold blkOf
  split
  · exact .inl rfl
  · exact .inr rfl

set_option maxRecDepth 100000 in
set_option maxHeartbeats 2000000 in
theorem sum_in (F : Fence) (hro : F.round = none) (f1 : F.fn 57) (f2 : F.fn 56) (f3 : F.fn 75) (f4 : F.fn 76) (hmix : ∀ k a b W, CallsIn F k Try.prog 76 #[.int .u64 a, .int .u64 b] W fun e w' => e = .returned (.int .u64 (mixV a b)) ∧ W = w') (n : Nat) (hn : 3 ≤ n) (s : ByteArray) (hs : s.size ≤ 1000) (A : Option Addr) (m c : Nat) (l : List Int) (w : World) (h : Nums .i64 w A m c l) :
    CallsIn F n Try.prog 57 #[.string s, .slice A m c] w fun e W' => e = .returned (.int .u64 (sumS s l)) ∧ E w W' := by
  have hn1 : 1 ≤ n := by omega
  have hn2 : 1 ≤ n - 1 - 1 := by omega
  have hcv := Lib.run_convert_string_bytes (P := Try.prog) (w.alloc (.cells #[.int .u64 0] 61)) 9 27 5 s (by exact Try.underlying9) (by exact Try.underlying27) (by exact Try.underlying5)
  have hE1 : E w (w.alloc (.cells #[.int .u64 0] 61)) := (E.refl w).alloc _
  have hN2 := bytesWorld_nums (w.alloc (.cells #[.int .u64 0] 61)) 5 s hs
  have hE2 := bytesWorld_e (w.alloc (.cells #[.int .u64 0] 61)) 5 s
  have hS2 := Lib.bytesWorld_size (w.alloc (.cells #[.int .u64 0] 61)) 5 s
  rw [World.size_alloc] at hcv hN2 hS2
  generalize grownCap (w.alloc (.cells #[.int .u64 0] 61)) s.size 0 5 = cc at *
  generalize Lib.bytesWorld (w.alloc (.cells #[.int .u64 0] 61)) 5 s = w2 at *
  refine callsIn_of_wp_marks Try.func57 rfl f1 ?_ hro
  simp only [Try.ntmps57, List.size_toArray, List.length_cons, List.length_nil, Nat.reduceAdd, Nat.reduceSub, Array.replicate_succ, Array.replicate_zero, List.push_toArray, List.append_toArray, List.nil_append, List.cons_append]
  gi_wp2_with (gi_at_call 56; refine (wordsOf_in F (n - 1) f2 hro _ _ _ _).mono ?_; rintro e w' ⟨rfl, rfl⟩)
  have hb0 := box_new w (.int .u64 0) 61
  have hc2 : w2.cell? ⟨w.heap.size, 0, none⟩ = some (.int .u64 0) := (hE2.cell (p := ⟨w.heap.size, 0, none⟩) (by simp)).trans hb0.1
  have hf2 : w2.frozen? ⟨w.heap.size, 0, none⟩ = false := (Below.frozen hE2 (p := ⟨w.heap.size, 0, none⟩) (by simp)).trans hb0.2
  have hb3 := box_new w2 (.slice (some ⟨w.heap.size + 1, 0, none⟩) s.size cc) 27
  rw [hS2] at hb3
  have hE23 : E w2 (w2.alloc (.cells #[.slice (some ⟨w.heap.size + 1, 0, none⟩) s.size cc] 27)) := (E.refl _).alloc _
  have hS3 : (w2.alloc (.cells #[.slice (some ⟨w.heap.size + 1, 0, none⟩) s.size cc] 27)).heap.size = w.heap.size + 1 + 1 + 1 := by rw [World.size_alloc, hS2]
  have hN3 := hN2.e hE23
  have hc3 := (hE23.cell (p := ⟨w.heap.size, 0, none⟩) (by show w.heap.size < w2.heap.size; omega)).trans hc2
  have hf3 := (Below.frozen hE23 (p := ⟨w.heap.size, 0, none⟩) (by show w.heap.size < w2.heap.size; omega)).trans hf2
  have hE3 : E w _ := (hE1.trans hE2).trans hE23
  have hbox := hb3.1
  clear hcv hE1 hN2 hE2 hb0 hc2 hf2 hb3 hE23 hS2
  generalize w2.alloc (.cells #[.slice (some ⟨w.heap.size + 1, 0, none⟩) s.size cc] 27) = w3 at *
  have hblk : blkOf (some ⟨w.heap.size + 1, 0, none⟩) s.size (w.heap.size + 1 + 1) ≠ w.heap.size ∧ blkOf (some ⟨w.heap.size + 1, 0, none⟩) s.size (w.heap.size + 1 + 1) < w3.heap.size := by
    rcases blkOf_cases (w.heap.size + 1) s.size (w.heap.size + 1 + 1) with e | e <;> rw [e, hS3] <;> omega
  refine wpIn_rangeFunc_ownF hro hn1 (gf := 75) (lb := #[.pointer (some ⟨w.heap.size + 1 + 1, 0, none⟩)]) rfl f3 (enters_of Try.func75 (by kernel_rfl) rfl)
    (words_stops F (n - 1) f3 hro (by omega) (w.heap.size + 1 + 1) _ s.size cc (bytS s) (by omega) w3 (by omega) hbox hN3) K2.trans (fun W l o o' hl _ _ _ => K2.put W l o' (by omega) (by omega)) (Below.refl _ _) (fun _ => rfl)
    (fun pre W => (W.cell? ⟨w.heap.size, 0, none⟩ = some (.int .u64 (pre.foldl mixV 0)) ∧ W.frozen? ⟨w.heap.size, 0, none⟩ = false) ∧ Below w.heap.size w W)
    (fun _ _ _ => False)
    (OwnFrom.and (Go.Own.from (fun s A B row hs hg hr => ⟨cell_kept hs.1 hg hr, (frozen_kept hs.1 hg hr).trans hs.2⟩) _) (ownFrom_below (Nat.le_refl _) (by omega)))
    (fun _ _ _ _ _ hs _ _ => hs)
    ⟨⟨hc3, hf3⟩, hE3⟩
    (fun x => { tmps := #[.string s, .slice A m c, undef, undef, .int .u64 0, .pointer (some ⟨w.heap.size, 0, none⟩), .int .u64 x, undef, undef, .string s, .slice (some ⟨w.heap.size + 1, 0, none⟩) s.size cc, .func (.func 75) #[] #[.pointer (some ⟨w.heap.size + 1 + 1, 0, none⟩)], .int .u64 x, undef, undef, undef, undef, undef, undef, undef, undef, undef, undef, undef, undef, undef, undef, undef, undef, undef, undef, undef, undef, undef, undef, undef, undef, undef, undef], defers := [] }) ?assign ?body ?done ?stop
  case assign =>
    intro ℓ x W K hK
    gi_wp2
    exact hK
  case body =>
    rintro ℓ pre x W ⟨⟨hc, hf⟩, hB⟩ _
    gi_wp2_with (gi_at_call 76; refine (CallsIn.inRound ℓ (hmix _ _ _ _)).mono ?_; rintro e w' ⟨rfl, rfl⟩)
    exact ⟨KeepsOthers.setCell _ _ _, K2.set W ⟨w.heap.size, 0, none⟩ _ hblk.1 (by show w.heap.size + 1 + 1 ≠ w.heap.size; omega), ⟨by rw [List.foldl_append]; exact World.cell?_setCell_same' _ _ _ (by rw [hc]; rfl), by rw [World.frozen?_setCell]; exact hf⟩, hB.setCell (p := ⟨w.heap.size, 0, none⟩) (Nat.le_refl _) _⟩
  case done =>
    rintro D ys W hD rfl ⟨⟨hc, hf⟩, hB⟩ hK
    gi_wp2_with (gi_at_call 76; refine (hmix _ _ _ _).mono ?_; rintro e w' ⟨rfl, rfl⟩)
    obtain ⟨st, hst⟩ : ∃ st, mixV (mixV (List.foldl mixV 0 (wordsL (bytS s))) ↑s.size) (IntKind.u64.wrap ↑m) = st := ⟨_, rfl⟩
    have HS := Lib.hid (show sumS s l = mixV ((l.map IntKind.u64.wrap).foldl mixV st) 0 by rw [sumS, h.len, hst])
    rw [hst]
    have hcB := World.cell?_setCell_same' (W.setCell ⟨w.heap.size, 0, none⟩ (.int .u64 (mixV (List.foldl mixV 0 (wordsL (bytS s))) ↑s.size))) ⟨w.heap.size, 0, none⟩ (.int .u64 st) (by rw [World.cell?_setCell_same' _ _ _ (by rw [hc]; rfl)]; rfl)
    have hfB : ((W.setCell ⟨w.heap.size, 0, none⟩ (.int .u64 (mixV (List.foldl mixV 0 (wordsL (bytS s))) ↑s.size))).setCell ⟨w.heap.size, 0, none⟩ (.int .u64 st)).frozen? ⟨w.heap.size, 0, none⟩ = false := by rw [World.frozen?_setCell, World.frozen?_setCell]; exact hf
    have hKB := (KeepsOthers.setCell _ ⟨w.heap.size, 0, none⟩ (.int .u64 st)).same D _ ((KeepsOthers.setCell W ⟨w.heap.size, 0, none⟩ (.int .u64 (mixV (List.foldl mixV 0 (wordsL (bytS s))) ↑s.size))).same D _ hK rfl) rfl
    have hEB : Below w.heap.size w _ := (hB.setCell (p := ⟨w.heap.size, 0, none⟩) (Nat.le_refl _) (.int .u64 (mixV (List.foldl mixV 0 (wordsL (bytS s))) ↑s.size))).setCell (p := ⟨w.heap.size, 0, none⟩) (Nat.le_refl _) (.int .u64 st)
    clear hc hf hK hB
    generalize ((W.setCell ⟨w.heap.size, 0, none⟩ (.int .u64 (mixV (List.foldl mixV 0 (wordsL (bytS s))) ↑s.size))).setCell ⟨w.heap.size, 0, none⟩ (.int .u64 st)) = wB at *
    obtain ⟨R, hRd⟩ : ∃ R, sumS s l = R := ⟨_, rfl⟩
    rw [hRd] at HS
    have HRd := Lib.hid hRd
    clear hRd
    gi_loopw [28] (fun ti wr => ∃ (k : Nat) (acc : Int), k ≤ m ∧ ti = .int .i64 k ∧ wr.cell? ⟨w.heap.size, 0, none⟩ = some (.int .u64 acc) ∧ wr.frozen? ⟨w.heap.size, 0, none⟩ = false ∧ wr.heap[D]? = some (.deferred (some [])) ∧ Below w.heap.size w wr ∧ Hid (R = mixV (((l.drop k).map IntKind.u64.wrap).foldl mixV acc) 0)) (fun ti _ => m - (intOf ti).toNat)
    case atStart => exact ⟨0, st, Nat.zero_le _, rfl, hcB, hfB, hKB, hEB, show _ = _ from HS.out⟩
    case round =>
      clear hcB hfB hKB hEB
      obtain ⟨k, acc, hk, rfl, hc, hf, hK, hB, hR⟩ := hrel
      have hNw := h.e hB
      have hm63 := h.n63
      by_cases hkm : k < m
      · obtain ⟨b, o, rfl, hbl, hcs⟩ := hNw.at_ (by omega)
        obtain ⟨x, hx⟩ : ∃ x, l[k]? = some x := ⟨l[k]'(by rw [h.len]; omega), List.getElem?_eq_getElem (by rw [h.len]; omega)⟩
        have hcx : wr.cell? ⟨b, o + k, none⟩ = some (.int .i64 x) := by
          obtain ⟨hj, rfl⟩ := List.getElem?_eq_some_iff.1 hx
          exact hcs k hj
        have HD := Lib.hid (drop_at hx)
        have hkI : (k : Int) < (m : Int) := by omega
        clear hcs hx
        gi_wp2_with (gi_at_call 76; refine (hmix _ _ _ _).mono ?_; rintro e w' ⟨rfl, rfl⟩)
        go_roundw
        case rel => exact ⟨k + 1, _, by omega, by go_num, World.cell?_setCell_same' _ _ _ (by rw [hc]; rfl), by rw [World.frozen?_setCell]; exact hf, (KeepsOthers.setCell _ _ _).same D _ hK rfl, hB.setCell (p := ⟨w.heap.size, 0, none⟩) (Nat.le_refl _) _, show _ = _ by rw [hR.out, HD.out]; rfl⟩
        case measure => simp [intOf]; omega
      · have hRe : R = mixV acc 0 := by rw [hR.out, List.drop_eq_nil_of_le (by rw [h.len]; omega)]; rfl
        have HR := Lib.hid hRe
        clear hRe hR
        have hkI : ¬ (k : Int) < (m : Int) := by omega
        gi_wp2_with (gi_at_call 76; refine (hmix _ _ _ _).mono ?_; rintro e w' ⟨rfl, rfl⟩)
        refine ⟨by simp, .inl ⟨_, _, rfl, run_takeDeferred hK, ?_⟩⟩
        exact ⟨_, results_tmp rfl _ _ _, by rw [HRd.out, HR.out]; rfl, hB.trans (belowK_b (w := w) (Nat.le_refl _) _ D _ _ (by omega) hK rfl rfl)⟩
  case stop =>
    rintro D c pre W _ _ h _
    exact h.elim
theorem sum_c (s : ByteArray) (hs : s.size ≤ 1000) (A : Option Addr) (m c : Nat) (l : List Int) (w : World) (h : Nums .i64 w A m c l) :
    Calls Try.prog 57 #[.string s, .slice A m c] w fun e W' => e = .returned (.int .u64 (sumS s l)) ∧ E w W' :=
  callsIn_wide.1 (sum_in Fence.wide rfl trivial trivial trivial trivial (fun _ a b W => callsIn_wide.2 (mix_c a b W)) 3 (Nat.le_refl _) s hs A m c l w h)
end Go.Proofs.Ythcicfolabngcaa
/- hash.Bytes. -/
namespace Go.Proofs.Ythcicfolabngcaa
open Go.RowKit Go.Shelf
attribute [local go_sem] Oper.semAt_some

section
variable {P : Program} {S T : TypeId} {k : IntKind} {by8 : Nat}
theorem wpListIn_app1n {F : Fence} {N : Nat} (it : IntT P S T k by8) (w : World) {ops : Array Oper} {rest : List Oper} {o : Oper} {a : Act} {Q : Exit → Act → World → Prop} (hgd : o.guard = none) (s x : Operand)
    (ho : o.op = .call { callee := .builtin .append, args := #[s, x], argTypes := #[S, S] })
    (base : Nat) (A : Option Addr) (n c : Nat) (l : List Int) (hs : a.eval s = .slice A n c) (hown : Own k T w base A n c l)
    (v : Int) (hx : a.eval x = .slice (some ⟨w.heap.size, 0, none⟩) 1 1) (hwf : (Lit.int k v).wf = true)
    (hlen : n ≤ 1099511627776) (hbase : base ≤ w.heap.size)
    (h : ∀ g' c' w', Own k T w' base (some ⟨g', 0, none⟩) (n + 1) c' (l ++ [v]) → w.grownBy w' (Value.slice A n c).ownBlock → Below base w w' → wpListIn F N P ops Q rest (a.put o.dst (.slice (some ⟨g', 0, none⟩) (n + 1) c')) w') :
    wpListIn F N P ops Q (o :: rest) a (w.alloc (.cells #[.int k v] T)) := by
  obtain ⟨i, hi, hz0, hz1, hz2⟩ := info_parts it.info
  have hsm := it.small
  have hown' := hown.e ((E.refl w).alloc (.cells #[.int k v] T))
  refine wpListIn_append_own (w.alloc (.cells #[.int k v] T)) hgd s x S ho base T i (.int k 0) 1 by8 it.und hi hz0 hz1 hz2 rfl (by decide) _ n _ hs hown'.2.1 ⟨w.heap.size, 0, none⟩ 1 1 [.int k v] hx rfl
    (by intro j u hu
        cases j with
        | zero => simp at hu; subst hu; exact cell_new w (.int k v) T
        | succ j => simp at hu)
    (by intro u hu; simp at hu; subst hu; rfl) (by unfold maxLen; omega)
    (by have : (n + 1) * by8 ≤ (n + 1) * 8 := Nat.mul_le_mul_left _ hsm
        omega) (by simp; omega) ?_
  intro v' w' h2 h3 _
  have hm : l.map (Value.int k) ++ [.int k v] = (l ++ [v]).map (Value.int k) := by simp
  rw [hm] at h2
  obtain ⟨g', c', rfl, hO⟩ := own_of_row h2 (by intro y hy; rcases List.mem_append.1 hy with hy | hy; exact hown.2.2 y hy; simp at hy; subst hy; exact hwf) (by omega)
  have hg := grown_of_alloc h3
  exact h g' c' w' hO hg ((Below.refl base w).grown hg hbase (ownBlock_le hown))
theorem mk_run (it : IntT P S T k by8) (w : World) (kl kc : IntKind) (C : Int) (h0 : 0 ≤ C) (hC : C ≤ 17592186044416) :
    ∃ w', (Instr.makeSlice S (.int kl 0) (.int kc C)).run P w = .ok (.slice (some ⟨w.heap.size, 0, none⟩) 0 C.toNat) w' ∧ Own k T w' w.heap.size (some ⟨w.heap.size, 0, none⟩) 0 C.toNat [] ∧ E w w' ∧ w'.heap.size = w.heap.size + 1 := by
  obtain ⟨i, hi, hz0, hz1, hz2⟩ := info_parts it.info
  have hsm := it.small
  obtain ⟨n, rfl⟩ : ∃ n : Nat, C = (n : Int) := ⟨C.toNat, by omega⟩
  have hb : i.bytes * n ≤ 281474976710656 := by
    rw [hz2]
    have : by8 * n ≤ 8 * n := Nat.mul_le_mul_right _ hsm
    omega
  have hbI : (i.bytes : Int) * (n : Int) ≤ 281474976710656 := by
    have h : ((i.bytes * n : Nat) : Int) ≤ 281474976710656 := by omega
    rwa [Int.natCast_mul] at h
  have hr := run_make (P := P) w S T i (.int k 0) it.und hi hz0 kl kc 0 n (by omega) (by omega) hbI (by omega)
  simp only [Int.toNat_natCast, Int.toNat_zero] at hr ⊢
  refine ⟨_, hr, ⟨by simp, ⟨by simp, .inr ⟨w.heap.size, n, _, rfl, Nat.le_refl _, heap_alloc_new w _, Nat.zero_le _, by unfold maxLen; omega, by rw [hz1]; show (madeCells #[Value.int k 0] (n * 1)).size = n * 1; rw [size_madeCells], by simp⟩⟩, by simp⟩, (E.refl w).alloc _, by simp⟩
end
theorem own_putO {k : IntKind} {T : TypeId} {W W' : World} {base : Nat} {A : Option Addr} {n c : Nat} {l : List Int} {row : Option Nat} (h : Own k T W base A n c l) (hg : W.grownBy W' row) (hr : ∀ r, row = some r → ∃ o : Obj, W.heap[r]? = some o ∧ o.isCells = false) : Own k T W' base A n c l := by
  refine ⟨h.1, World.ownsRow.kept h.2.1 hg ?_, h.2.2⟩
  rcases h.2.1.2 with ⟨e, _⟩ | ⟨g, cap, cur, e, _, hgb, _⟩
  · left; rw [e]; rfl
  · right
    intro e'
    obtain ⟨o, ho, hc⟩ := hr g (by rw [← e', e]; rfl)
    rw [hgb] at ho; cases ho; cases hc

theorem wrap64_wf' (x : Int) : (Lit.int .i64 (wrap64 x)).wf = true := wf_of_i64 (by unfold wrap64; omega) (by unfold wrap64; omega)
/-- the box of the words that have come, the row in it, the box of the bytes -/
def WBox (W : World) (Bw Bs base : Nat) (A : Option Addr) (m c : Nat) (pre : List Int) : Prop :=
  ∃ A' c', W.heap[Bw]? = some (.cells #[.slice A' pre.length c'] 33 (0, 0)) ∧ Own .i64 3 W base A' pre.length c' (pre.map wrap64) ∧ W.heap[Bs]? = some (.cells #[.slice A m c] 27 (0, 0))
theorem WBox.kept {W W' : World} {Bw Bs base : Nat} {A : Option Addr} {m c : Nat} {pre : List Int} {row : Option Nat} (h : WBox W Bw Bs base A m c pre) (hg : W.grownBy W' row) (hr : ∀ r, row = some r → ∃ o : Obj, W.heap[r]? = some o ∧ o.isCells = false) : WBox W' Bw Bs base A m c pre := by
  obtain ⟨A', c', h1, h2, h3⟩ := h
  exact ⟨A', c', (grownBy_keeps_cells hg hr h1 rfl).trans h1, own_putO h2 hg hr, (grownBy_keeps_cells hg hr h3 rfl).trans h3⟩
theorem wbox_step {W w4 : World} {Bw base k c' : Nat} {A' : Option Addr} {xs : List Int} (hb : W.heap[Bw]? = some (.cells #[.slice A' k c'] 33 (0, 0))) (hO : Own .i64 3 W base A' k c' xs) (hG : W.grownBy w4 (Value.slice A' k c').ownBlock) :
    w4.cell? ⟨Bw, 0, none⟩ = some (.slice A' k c') ∧ w4.frozen? ⟨Bw, 0, none⟩ = false := by
  have hne := hO.apart hb (by decide)
  have hb4 : w4.heap[Bw]? = some (.cells #[.slice A' k c'] 33 (0, 0)) := by rw [hG.block Bw (blk_lt hb) (fun e => hne e.symm)]; exact hb
  exact ⟨by rw [cell_of_row _ _ _ _ _ _ hb4]; rfl, frozen_of_row _ _ _ _ _ hb4⟩
theorem wbox_next {W w4 : World} {Bw Bs base m c c' g' c2 : Nat} {A A' : Option Addr} {pre : List Int} {x : Int} (hb : W.heap[Bw]? = some (.cells #[.slice A' pre.length c'] 33 (0, 0))) (hO : Own .i64 3 W base A' pre.length c' (pre.map wrap64)) (hs : W.heap[Bs]? = some (.cells #[.slice A m c] 27 (0, 0)))
    (hO4 : Own .i64 3 w4 base (some ⟨g', 0, none⟩) (pre.length + 1) c2 (pre.map wrap64 ++ [wrap64 x])) (hG : W.grownBy w4 (Value.slice A' pre.length c').ownBlock) (hbs : Bs ≠ Bw) :
    WBox (w4.setCell ⟨Bw, 0, none⟩ (.slice (some ⟨g', 0, none⟩) (pre.length + 1) c2)) Bw Bs base A m c (pre ++ [x]) ∧ KeepsOthers W (w4.setCell ⟨Bw, 0, none⟩ (.slice (some ⟨g', 0, none⟩) (pre.length + 1) c2)) ∧
      ∀ b, (b = Bs ∨ (b < base ∧ b < W.heap.size ∧ b ≠ Bw)) → K2 b Bs W (w4.setCell ⟨Bw, 0, none⟩ (.slice (some ⟨g', 0, none⟩) (pre.length + 1) c2)) := by
  have hne := hO.apart hb (by decide)
  have hns := hO.apart hs (by decide)
  have hb4 : w4.heap[Bw]? = some (.cells #[.slice A' pre.length c'] 33 (0, 0)) := by rw [hG.block Bw (blk_lt hb) (fun e => hne e.symm)]; exact hb
  have hs4 : w4.heap[Bs]? = W.heap[Bs]? := hG.block Bs (blk_lt hs) (fun e => hns e.symm)
  have hS : (w4.setCell ⟨Bw, 0, none⟩ (.slice (some ⟨g', 0, none⟩) (pre.length + 1) c2)).heap[Bs]? = W.heap[Bs]? := (Below.heap_setCell _ _ _ _ hbs).trans hs4
  have hko : ∀ (j : Nat) (o : Obj), (Value.slice A' pre.length c').ownBlock = some j → W.heap[j]? = some o → o.isCells = true := by
    intro j o hj ho
    rcases hO.2.1.2 with ⟨e, _⟩ | ⟨g, cap, cur, e, _, hgb, _⟩
    · rw [e] at hj; cases hj
    · rw [e] at hj
      have : g = j := by simpa [Value.ownBlock] using hj
      subst this; rw [hgb] at ho; cases ho; rfl
  refine ⟨⟨some ⟨g', 0, none⟩, c2, ?_, ?_, hS.trans hs⟩, (KeepsOthers.of_grownBy hG hko).trans (KeepsOthers.setCell _ _ _), ?_⟩
  · rw [heap_setCell_same _ _ _ _ _ _ hb4, List.length_append]; rfl
  · have := hO4.far (p := ⟨Bw, 0, none⟩) (hO4.apart hb4 (by decide)) (.slice (some ⟨g', 0, none⟩) (pre.length + 1) c2)
    rw [List.length_append, List.map_append]; exact this
  · intro b hbb
    refine ⟨?_, hS⟩
    rcases hbb with rfl | ⟨h1, h2, h3⟩
    · exact hS
    · rw [Below.heap_setCell _ _ _ _ h3]
      exact hG.block b h2 (fun e => by have := ownBlock_le hO b e.symm; omega)

set_option maxRecDepth 100000 in
set_option maxHeartbeats 2000000 in
theorem bytes_in (F : Fence) (hro : F.round = none) (f1 : F.fn 32) (f2 : F.fn 56) (f3 : F.fn 75) (f4 : F.fn 57) (hsumc : ∀ k s A m c l W, ByteArray.size s ≤ 1000 → Nums .i64 W A m c l → CallsIn F k Try.prog 57 #[.string s, .slice A m c] W fun e W' => e = .returned (.int .u64 (sumS s l)) ∧ E W W') (n : Nat) (hn : 3 ≤ n) (s : ByteArray) (hs : s.size ≤ 1000) (A : Option Addr) (m c : Nat) (l : List Int) (w : World) (h : Nums .u8 w A m c l) (hm : m ≤ 1000000) :
    CallsIn F n Try.prog 32 #[.string s, .slice A m c] w fun e W' => e = .returned (.int .u64 (sumS s ((wordsL l).map wrap64 ++ [(m : Int)]))) ∧ E w W' := by
  have hn1 : 1 ≤ n := by omega
  have hn2 : 1 ≤ n - 1 - 1 := by omega
  obtain ⟨w1, hmk, hO1, hE1, hz1⟩ := mk_run intTk w .i64 .i64 ((m : Int) / 8 + 2) (by omega) (by omega)
  refine callsIn_of_wp_marks Try.func32 rfl f1 ?_ hro
  simp only [Try.ntmps32, List.size_toArray, List.length_cons, List.length_nil, Nat.reduceAdd, Nat.reduceSub, Array.replicate_succ, Array.replicate_zero, List.push_toArray, List.append_toArray, List.nil_append, List.cons_append]
  gi_wp2_with (gi_at_call 56; refine (wordsOf_in F (n - 1) f2 hro _ _ _ _).mono ?_; rintro e w' ⟨rfl, rfl⟩)
  have htn : ((m : Int) / 8 + 2).toNat = m / 8 + 2 := by omega
  rw [htn] at hO1
  have hb2 := heap_alloc_new w1 (.cells #[.slice (some ⟨w.heap.size, 0, none⟩) 0 (m / 8 + 2)] 33)
  have hE12 : E w1 (w1.alloc (.cells #[.slice (some ⟨w.heap.size, 0, none⟩) 0 (m / 8 + 2)] 33)) := (E.refl _).alloc _
  have hz2 : (w1.alloc (.cells #[.slice (some ⟨w.heap.size, 0, none⟩) 0 (m / 8 + 2)] 33)).heap.size = w.heap.size + 1 + 1 := by rw [World.size_alloc, hz1]
  rw [hz1] at hb2
  have hO2 := hO1.e hE12
  generalize w1.alloc (.cells #[.slice (some ⟨w.heap.size, 0, none⟩) 0 (m / 8 + 2)] 33) = w2 at *
  have hb3 := heap_alloc_new w2 (.cells #[.slice A m c] 27)
  have hE23 : E w2 (w2.alloc (.cells #[.slice A m c] 27)) := (E.refl _).alloc _
  have hz3 : (w2.alloc (.cells #[.slice A m c] 27)).heap.size = w.heap.size + 1 + 1 + 1 := by rw [World.size_alloc, hz2]
  rw [hz2] at hb3
  have hO3 := hO2.e hE23
  have hbw : (w2.alloc (.cells #[.slice A m c] 27)).heap[w.heap.size + 1]? = _ := (hE23.block (k := w.heap.size + 1) (by omega)).trans hb2
  have hE3 : E w (w2.alloc (.cells #[.slice A m c] 27)) := (hE1.trans hE12).trans hE23
  generalize w2.alloc (.cells #[.slice A m c] 27) = w3 at *
  have hN3 := h.e hE3
  have hbox : w3.cell? ⟨w.heap.size + 1 + 1, 0, none⟩ = some (.slice A m c) := by rw [cell_of_row _ _ _ _ _ _ hb3]; rfl
  clear hmk hO1 hO2 hE12 hE23 hb2 hE1
  have hblk : blkOf A m (w.heap.size + 1 + 1) = w.heap.size + 1 + 1 ∨ blkOf A m (w.heap.size + 1 + 1) < w.heap.size := by
    unfold blkOf
    split
    · exact .inl rfl
    · rename_i hm0
      obtain ⟨b, o, rfl, hb, _⟩ := h.at_ (by omega)
      exact .inr hb
  refine wpIn_rangeFunc_ownF hro hn1 (gf := 75) (lb := #[.pointer (some ⟨w.heap.size + 1 + 1, 0, none⟩)]) rfl f3 (enters_of Try.func75 (by kernel_rfl) rfl)
    (words_stops F (n - 1) f3 hro (by omega) (w.heap.size + 1 + 1) A m c l (by omega) w3 (by omega) hbox hN3) K2.trans (fun W l o o' hl _ _ _ => K2.put W l o' (by omega) (by omega)) (Below.refl _ _) (fun _ => rfl)
    (fun pre W => WBox W (w.heap.size + 1) (w.heap.size + 1 + 1) w.heap.size A m c pre ∧ Below w.heap.size w W)
    (fun _ _ _ => False)
    (OwnFrom.and (Go.Own.from (fun s A B row hs hg hr => hs.kept hg hr) _) (ownFrom_below (Nat.le_refl _) (by omega)))
    (fun _ _ _ _ _ hs _ _ => hs)
    ⟨⟨_, _, hbw, hO3, hb3⟩, hE3⟩
    (fun x => { tmps := #[.string s, .slice A m c, undef, undef, .int .u64 0, .pointer (some ⟨w.heap.size + 1, 0, none⟩), .int .u64 x, .slice A m c, .int .i64 ↑m, .int .i64 (↑m / 8), .int .i64 (↑m / 8 + 2), .slice (some ⟨w.heap.size, 0, none⟩) 0 (m / 8 + 2), .slice A m c, .func (.func 75) #[] #[.pointer (some ⟨w.heap.size + 1 + 1, 0, none⟩)], .int .u64 x, undef, undef, undef, undef, undef, undef, undef, undef, undef, undef, undef, undef], defers := [] }) ?assign ?body ?done ?stop
  case assign =>
    intro ℓ x W K hK
    gi_wp2
    exact hK
  case body =>
    rintro ℓ pre x W ⟨⟨A', c', hbW, hOW, hbB⟩, hB⟩ hlt
    have hcW : W.cell? ⟨w.heap.size + 1, 0, none⟩ = some (.slice A' pre.length c') := by rw [cell_of_row _ _ _ _ _ _ hbW]; rfl
    have hpl : pre.length ≤ 1000000 := by unfold nWords at hlt; omega
    have hwx : (Lit.int .i64 (wrap64 x)).wf = true := wrap64_wf' x
    have hbs : w.heap.size ≤ W.heap.size := hB.size
    gi_wp2_with (gi_at_builtin; refine wpListIn_app1n intTk _ rfl _ _ rfl _ _ _ _ _ rfl hOW _ rfl hwx (by omega) hbs ?_; intro g' c2 w4 hO4 hG4 hB4; obtain ⟨hc4, hf4⟩ := wbox_step hbW hOW hG4)
    obtain ⟨hX1, hX2, hX3⟩ := wbox_next hbW hOW hbB hO4 hG4 (by omega)
    exact ⟨hX2, hX3 _ (by omega), hX1, hB.trans (hB4.setCell (p := ⟨w.heap.size + 1, 0, none⟩) (by simp) _)⟩
  case done =>
    rintro D ys W hD rfl ⟨⟨A', c', hbW, hOW, hbB⟩, hB⟩ hK
    have hcW : W.cell? ⟨w.heap.size + 1, 0, none⟩ = some (.slice A' (wordsL l).length c') := by rw [cell_of_row _ _ _ _ _ _ hbW]; rfl
    have hwl : (wordsL l).length ≤ 1000000 := by simp only [wordsL, List.length_map, List.length_range, nWords, h.len]; omega
    have hwm : (Lit.int .i64 (m : Int)).wf = true := wf_of_i64 (by omega) (by omega)
    have hbs : w.heap.size ≤ W.heap.size := hB.size
    have HK := Lib.hid hK
    clear hK
    gi_wp2_with (first
      | (gi_at_builtin; refine wpListIn_app1n intTk _ rfl _ _ rfl _ _ _ _ _ rfl hOW _ rfl hwm (by omega) hbs ?_; intro g' c2 w4 hO4 hG4 hB4)
      | (gi_at_call 57; refine (hsumc _ _ _ _ _ _ _ hs hO4.reads).mono ?_; rintro e w5 ⟨rfl, hE5⟩))
    have hK5 : w5.heap[D]? = some (.deferred (some [])) := by
      have hlt := blk_lt HK.out
      rw [hE5.block (Nat.lt_of_lt_of_le hlt hG4.size), hG4.block D hlt (fun e => ?_)]
      · exact HK.out
      · rcases hOW.2.1.2 with ⟨e', _⟩ | ⟨g, cap, cur, e', _, hgb, _⟩
        · rw [e'] at e; cases e
        · rw [e'] at e
          have : D = g := by simpa [Value.ownBlock] using e
          subst this
          rw [HK.out] at hgb; cases hgb
    refine ⟨by simp, .inl ⟨_, _, rfl, run_takeDeferred hK5, ?_⟩⟩
    exact ⟨_, results_tmp rfl _ _ _, rfl, ((hB.trans hB4).trans (Below.mono hE5 (Nat.le_trans hbs hG4.size))).trans (belowK_b (w := w) (Nat.le_refl _) _ D _ _ (by omega) hK5 rfl rfl)⟩
  case stop =>
    rintro D c pre W _ _ h _
    exact h.elim
def bytesS (s : ByteArray) (l : List Int) : Int := sumS s ((wordsL l).map wrap64 ++ [(l.length : Int)])
theorem bytes_c (s : ByteArray) (hs : s.size ≤ 1000) (A : Option Addr) (m c : Nat) (l : List Int) (w : World) (h : Nums .u8 w A m c l) (hm : m ≤ 1000000) :
    Calls Try.prog 32 #[.string s, .slice A m c] w fun e W' => e = .returned (.int .u64 (bytesS s l)) ∧ E w W' := by
  have := callsIn_wide.1 (bytes_in Fence.wide rfl trivial trivial trivial trivial (fun _ s A m c l W h1 h2 => callsIn_wide.2 (sum_c s h1 A m c l W h2)) 3 (Nat.le_refl _) s hs A m c l w h hm)
  rw [bytesS, h.len]
  exact this
end Go.Proofs.Ythcicfolabngcaa
