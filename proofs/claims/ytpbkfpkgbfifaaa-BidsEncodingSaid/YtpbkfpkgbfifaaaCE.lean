/- The plain law of the encoding of bids. -/
import Derived.Test.YtpbkfpkgbfifaaaKDe
namespace Go.Proofs.Ytpbkfpkgbfifaaa
open Go.RowKit

def I64 (x : Int) : Prop := -9223372036854775808 ≤ x ∧ x ≤ 9223372036854775807
def Byts (l : List Int) : Prop := ∀ x ∈ l, 0 ≤ x ∧ x ≤ 255
theorem rdUS_uv (v : Nat) (r : List Int) (hv : v < 18446744073709551616) : rdUS (uv v ++ r) 0 = ((v : Int), r, 0) := by
  have := rdU_uv v 0 0 r (by omega) (fun h => absurd h (by omega)) (by simpa using hv)
  simp [rdUS, this]
theorem rdIS_zb (x : Int) (r : List Int) (h : I64 x) : rdIS (zb x ++ r) 0 = (x, r, 0) := by
  simp [rdIS, zb, rdUS_uv _ r (zig_lt x h.1 h.2), unzig_zig]
theorem rdU_mem : ∀ (l : List Int) (i n : Nat) (y : Int), y ∈ (rdU i n l).2.1 → y ∈ l
  | [], _, _, y, h => by simp [rdU] at h
  | b :: l, i, n, y, h => by
    rw [rdU] at h
    split at h
    · exact List.mem_cons_of_mem _ h
    · split at h
      · exact List.mem_cons_of_mem _ h
      · exact List.mem_cons_of_mem _ (rdU_mem l _ _ y h)
theorem rdIS_mem {r : List Int} {e : Int} {y : Int} (h : y ∈ (rdIS r e).2.1) : y ∈ r := by
  simp only [rdIS, rdUS] at h
  split at h
  · exact h
  · exact rdU_mem r 0 0 y h
theorem rdIS_back {r r' : List Int} {e x : Int} (hb : Byts r) (h : rdIS r e = (x, r', 0)) : e = 0 ∧ r = zb x ++ r' ∧ I64 x := by
  by_cases he : e = 0
  · subst he
    refine ⟨rfl, ?_⟩
    simp only [rdIS, rdUS, ne_eq, not_true_eq_false, if_false, Int.toNat_natCast, Prod.mk.injEq] at h
    obtain ⟨h1, h2, h3⟩ := h
    obtain ⟨u, hu, hr, hlt, _⟩ := rdU_back r 0 0 (rdU 0 0 r).1 r' hb (by omega) (by decide) (by rw [← h2, ← h3])
    have hu' : u = (rdU 0 0 r).1 := by rw [hu]; simp
    subst h1
    refine ⟨?_, unzig_range hlt⟩
    rw [zb, zig_unzig, ← hu']
    exact hr
  · exfalso
    simp only [rdIS, rdUS, ne_eq, he, not_false_eq_true, if_true, Prod.mk.injEq] at h
    exact h.2.2
theorem rdInts_zb : ∀ (l acc r : List Int), (∀ x ∈ l, I64 x) → rdInts l.length acc (zbs l ++ r) 0 = (acc ++ l, r, 0)
  | [], acc, r, _ => by simp [rdInts, zbs]
  | x :: l, acc, r, h => by
    rw [List.length_cons, rdInts, zbs_cons, List.append_assoc, rdIS_zb x _ (h x List.mem_cons_self)]
    rw [rdInts_zb l _ r (fun y hy => h y (List.mem_cons_of_mem _ hy))]
    simp
theorem rdInts_mem : ∀ (k : Nat) (acc r : List Int) (e y : Int), y ∈ (rdInts k acc r e).2.1 → y ∈ r
  | 0, _, _, _, _, h => h
  | k + 1, _, _, _, y, h => rdIS_mem (rdInts_mem k _ _ _ y h)
theorem rdInts_back : ∀ (k : Nat) (acc r l r' : List Int) (e : Int), Byts r → rdInts k acc r e = (l, r', 0) → ∃ l2, l = acc ++ l2 ∧ l2.length = k ∧ e = 0 ∧ r = zbs l2 ++ r'
  | 0, acc, r, l, r', e, _, h => by
    simp only [rdInts, Prod.mk.injEq] at h
    obtain ⟨rfl, rfl, rfl⟩ := h
    exact ⟨[], by simp, rfl, rfl, by simp [zbs]⟩
  | k + 1, acc, r, l, r', e, hb, h => by
    rw [rdInts] at h
    obtain ⟨l2, h1, h2, h3, h4⟩ := rdInts_back k _ _ _ _ _ (fun y hy => hb y (rdIS_mem hy)) h
    obtain ⟨h5, h6, _⟩ := rdIS_back (x := (rdIS r e).1) (r' := (rdIS r e).2.1) hb (by rw [← h3])
    refine ⟨(rdIS r e).1 :: l2, by rw [h1]; simp, by simp [h2], h5, ?_⟩
    rw [zbs_cons, List.append_assoc, ← h4]
    exact h6
def WfB (x : Bd) : Prop := I64 x.1 ∧ I64 x.2.1 ∧ ∀ y ∈ x.2.2, I64 y
theorem rdBid_enc (N : Nat) (x : Bd) (r : List Int) (h : WfB x) (hN : x.2.2.length ≤ N) (hN2 : (N : Int) ≤ 9223372036854775807) : rdBid N (bdB x ++ r) 0 = some (x, r, 0) := by
  obtain ⟨a, p, ls⟩ := x
  simp only at hN
  have hz : I64 (ls.length : Int) := ⟨by omega, by omega⟩
  simp only [rdBid, bdB, List.append_assoc]
  rw [rdIS_zb a _ h.1]
  simp only
  rw [rdIS_zb p _ h.2.1]
  simp only
  rw [rdIS_zb _ _ hz]
  simp only
  rw [if_neg (by omega), Int.toNat_natCast, rdInts_zb ls [] r h.2.2]
  simp
theorem rdBid_mem {N : Nat} {r r' : List Int} {e e' : Int} {x : Bd} (h : rdBid N r e = some (x, r', e')) (y : Int) (hy : y ∈ r') : y ∈ r := by
  simp only [rdBid] at h
  split at h
  · cases h
  · injection h with h
    simp only [Prod.mk.injEq] at h
    obtain ⟨_, h2, _⟩ := h
    rw [← h2] at hy
    exact rdIS_mem (rdIS_mem (rdIS_mem (rdInts_mem _ _ _ _ _ hy)))
theorem rdBid_back {N : Nat} {r r' : List Int} {e : Int} {x : Bd} (hb : Byts r) (h : rdBid N r e = some (x, r', 0)) : e = 0 ∧ r = bdB x ++ r' := by
  simp only [rdBid] at h
  split at h
  · cases h
  · rename_i hz
    injection h with h
    simp only [Prod.mk.injEq] at h
    obtain ⟨h1, h2, h3⟩ := h
    have b1 : Byts (rdIS r e).2.1 := fun y hy => hb y (rdIS_mem hy)
    have b2 : Byts (rdIS (rdIS r e).2.1 (rdIS r e).2.2).2.1 := fun y hy => b1 y (rdIS_mem hy)
    generalize hx : rdIS r e = X at *
    generalize hy : rdIS X.2.1 X.2.2 = Y at *
    generalize hw : rdIS Y.2.1 Y.2.2 = Z at *
    have b3 : Byts Z.2.1 := fun y hy' => b2 y (rdIS_mem (e := Y.2.2) (by rw [hw]; exact hy'))
    generalize hq : rdInts Z.1.toNat [] Z.2.1 Z.2.2 = F at *
    obtain ⟨l2, g1, g2, g3, g4⟩ := rdInts_back Z.1.toNat [] Z.2.1 F.1 F.2.1 Z.2.2 b3 (by rw [hq, ← h3])
    obtain ⟨z1, z2, _⟩ := rdIS_back (x := Z.1) (r' := Z.2.1) b2 (by rw [hw, ← g3])
    obtain ⟨y1, y2, _⟩ := rdIS_back (x := Y.1) (r' := Y.2.1) b1 (by rw [hy, ← z1])
    obtain ⟨x1, x2, _⟩ := rdIS_back (x := X.1) (r' := X.2.1) hb (by rw [hx, ← y1])
    refine ⟨x1, ?_⟩
    rw [← h1, ← h2, x2, y2, z2, g4]
    simp only [bdB, List.append_assoc, g1, List.nil_append, g2]
    rw [show ((Z.1.toNat : Nat) : Int) = Z.1 by omega]
theorem rdBids_enc (N : Nat) (hN2 : (N : Int) ≤ 9223372036854775807) : ∀ (l acc : List Bd) (r : List Int), (∀ x ∈ l, WfB x ∧ x.2.2.length ≤ N) → rdBids N l.length acc (bdsB l ++ r) 0 = some (acc ++ l, r, 0)
  | [], acc, r, _ => by simp [rdBids, bdsB]
  | x :: l, acc, r, h => by
    have hx := h x List.mem_cons_self
    rw [List.length_cons, rdBids, bdsB_cons, List.append_assoc, rdBid_enc N x _ hx.1 hx.2 hN2]
    simp only
    rw [rdBids_enc N hN2 l _ r (fun y hy => h y (List.mem_cons_of_mem _ hy))]
    simp
theorem rdBids_back (N : Nat) : ∀ (k : Nat) (acc l : List Bd) (r r' : List Int) (e : Int), Byts r → rdBids N k acc r e = some (l, r', 0) → ∃ l2, l = acc ++ l2 ∧ l2.length = k ∧ e = 0 ∧ r = bdsB l2 ++ r'
  | 0, acc, l, r, r', e, _, h => by
    simp only [rdBids, Option.some.injEq, Prod.mk.injEq] at h
    obtain ⟨rfl, rfl, rfl⟩ := h
    exact ⟨[], by simp, rfl, rfl, by simp [bdsB]⟩
  | k + 1, acc, l, r, r', e, hb, h => by
    rw [rdBids] at h
    split at h
    · cases h
    · rename_i x r1 e1 hx
      obtain ⟨l2, h1, h2, h3, h4⟩ := rdBids_back N k _ _ _ _ _ (fun y hy => hb y (rdBid_mem hx y hy)) h
      subst h3
      obtain ⟨h5, h6⟩ := rdBid_back hb hx
      refine ⟨x :: l2, by rw [h1]; simp, by simp [h2], h5, ?_⟩
      rw [bdsB_cons, List.append_assoc, ← h4]
      exact h6
theorem uv_pos (v : Nat) : 0 < (uv v).length := by
  by_cases h : v < 128
  · rw [uv_small h]; simp
  · rw [uv_big h]; simp
theorem zb_pos (v : Int) : 0 < (zb v).length := uv_pos _
theorem zbs_ge (l : List Int) : l.length ≤ (zbs l).length := by
  induction l with
  | nil => simp [zbs]
  | cons a l ih => rw [zbs_cons, List.length_append, List.length_cons]; have := zb_pos a; omega
theorem bdB_ge (x : Bd) : x.2.2.length + 1 ≤ (bdB x).length := by
  have h1 := zbs_ge x.2.2
  have h2 := zb_pos x.1
  simp only [bdB, List.length_append]
  omega
theorem bdsB_ge (l : List Bd) : l.length ≤ (bdsB l).length ∧ ∀ x ∈ l, x.2.2.length ≤ (bdsB l).length := by
  induction l with
  | nil => simp [bdsB]
  | cons a l ih =>
    rw [bdsB_cons]
    have := bdB_ge a
    simp only [List.length_append, List.length_cons]
    refine ⟨by omega, fun x hx => ?_⟩
    rcases List.mem_cons.1 hx with rfl | hx
    · omega
    · have := ih.2 x hx; omega
theorem encB_pos (l : List Bd) : 0 < (encB l).length := by rw [encB, List.length_append]; have := zb_pos (l.length : Int); omega
theorem decF_enc (l : List Bd) (h : ∀ x ∈ l, WfB x) (hl : (encB l).length ≤ 1000000000) : decF (encB l) = (l, 0) := by
  have h1 := bdsB_ge l
  have h2 : (encB l).length = (zb (l.length : Int)).length + (bdsB l).length := by rw [encB, List.length_append]
  have hx : rdIS (encB l) 0 = ((l.length : Int), bdsB l, 0) := rdIS_zb _ _ ⟨by omega, by omega⟩
  simp only [decF, hx]
  rw [if_neg (by omega), Int.toNat_natCast]
  have h3 := rdBids_enc (encB l).length (by omega) l [] [] (fun x hx => ⟨h x hx, by have := h1.2 x hx; omega⟩)
  rw [List.append_nil, List.nil_append] at h3
  rw [h3]
  simp [endS]
theorem decF_back {b : List Int} {l : List Bd} (hb : Byts b) (h : decF b = (l, 0)) : b = encB l := by
  simp only [decF] at h
  split at h
  · simp at h
  · rename_i hz
    split at h
    · simp at h
    · rename_i l' r e hq
      split at h
      · rename_i hen
        simp only [Prod.mk.injEq, and_true] at h
        subst h
        have he : e = 0 ∧ r = [] := by
          unfold endS at hen
          split at hen
          · contradiction
          · rename_i h0
            split at hen
            · rename_i h1; exact ⟨by simpa using h0, h1⟩
            · omega
        obtain ⟨rfl, rfl⟩ := he
        obtain ⟨l2, h1, h2, h3, h4⟩ := rdBids_back _ _ _ _ _ _ _ (fun y hy => hb y (rdIS_mem hy)) hq
        obtain ⟨_, h6, _⟩ := rdIS_back (e := 0) (x := (rdIS b 0).1) (r' := (rdIS b 0).2.1) hb (Prod.ext rfl (Prod.ext rfl h3))
        rw [List.nil_append] at h1
        subst h1
        rw [encB, h2, show (((rdIS b 0).1.toNat : Nat) : Int) = (rdIS b 0).1 by omega]
        rw [List.append_nil] at h4
        rw [← h4]
        exact h6
      · simp at h
theorem decF_err {b : List Int} (h : (decF b).2 ≠ 0) : decF b = ([], 2) := by
  simp only [decF] at h ⊢
  split
  · rfl
  · rename_i hz
    rw [if_neg hz] at h
    split
    · rfl
    · rename_i hq
      rw [hq] at h
      simp only at h
      split
      · rename_i hen
        rw [if_pos hen] at h
        exact absurd rfl h
      · rfl
end Go.Proofs.Ytpbkfpkgbfifaaa
