
/- Ints of the writer and the reader. -/
import Derived.Test.YtbpfdogjjoceaaaRE
import Derived.Test.YtbpfdogjjoceaaaP
import Derived.Test.YtbpfdogjjoceaaaS10
namespace Go.Proofs.Ytbpfdogjjoceaaa
open Go.RowKit

def intsB (l : List Int) : List Int := l.flatMap fun v => uv (zig v)
def encI (l : List Int) : List Int := uv l.length ++ intsB l
theorem intsB_len (l : List Int) (h : ∀ x ∈ l, (Lit.int .i64 x).wf = true) : (intsB l).length ≤ 10 * l.length := by
  induction l with
  | nil => simp [intsB]
  | cons a l ih =>
    have h1 := ih (fun x hx => h x (List.mem_cons_of_mem _ hx))
    have h2 := wf_i64 (h a List.mem_cons_self)
    have := uv_len10 (zig_lt a h2.1 h2.2)
    simp only [intsB, List.flatMap_cons, List.length_append, List.length_cons] at h1 ⊢
    omega

/-- make([]T, 0, n): an empty row of the call's own, in the new block -/
theorem wpList_mk0 {P : Program} {S T : TypeId} {k : IntKind} {by8 : Nat} (it : IntT P S T k by8) (w : World) {ops : Array Oper} {rest : List Oper} {o : Oper} {a : Act} {Q : Exit → Act → World → Prop} (hgd : o.guard = none) (x y : Operand)
    (ho : o.op = Op.makeSlice S x y) (kl kc : IntKind) (L C : Int) (n : Nat) (hl : a.eval x = .int kl L) (hc : a.eval y = .int kc C) (hL : L = 0) (hC : C = (n : Int)) (hn : n ≤ 17592186044416)
    (h : ∀ w', Own k T w' w.heap.size (some ⟨w.heap.size, 0, none⟩) 0 n [] → E w w' → w'.heap.size = w.heap.size + 1 → wpList P ops Q rest (a.put o.dst (.slice (some ⟨w.heap.size, 0, none⟩) 0 n)) w') :
    wpList P ops Q (o :: rest) a w := by
  obtain ⟨i, hi, hz0, hz1, hz2⟩ := info_parts it.info
  have hsm := it.small
  have hb : i.bytes * n ≤ 281474976710656 := by
    rw [hz2]
    have : by8 * n ≤ 8 * n := Nat.mul_le_mul_right _ hsm
    omega
  refine wpList_plain hgd fun K hK' => ?_
  have hbI : (i.bytes : Int) * (n : Int) ≤ 281474976710656 := by
    have h : ((i.bytes * n : Nat) : Int) ≤ 281474976710656 := by omega
    rwa [Int.natCast_mul] at h
  have hr := run_make (P := P) w S T i (.int k 0) it.und hi hz0 kl kc 0 n (by omega) (by omega) hbI (by omega)
  simp only [Int.toNat_natCast, Int.toNat_zero] at hr
  subst hL
  subst hC
  unfold Oper.wp
  simp [execOp, ho, hl, hc, hr, Result.andThen]
  refine hK' _ _ (h _ ⟨by simp, ⟨by simp, .inr ⟨w.heap.size, n, _, rfl, Nat.le_refl _, heap_alloc_new w _, Nat.zero_le _, by unfold maxLen; omega, by rw [size_madeCells, hz1], ?_⟩⟩, ?_⟩ ((E.refl w).alloc _) (by simp))
  · simp
  · simp

theorem intsB_ge (l : List Int) : l.length ≤ (intsB l).length := by
  induction l with
  | nil => simp [intsB]
  | cons a l ih =>
    have : 0 < (uv (zig a)).length := by
      by_cases h : zig a < 128
      · rw [uv_small h]; simp
      · rw [uv_big h]; simp
    simp only [intsB, List.flatMap_cons, List.length_append, List.length_cons] at ih ⊢
    omega
theorem rdUS_uv (v : Nat) (r : List Int) (hv : v < 18446744073709551616) : rdUS (uv v ++ r) 0 = ((v : Int), r, 0) := by
  have := rdU_uv v 0 0 r (by omega) (fun h => absurd h (by omega)) (by simpa using hv)
  simp [rdUS, this]
theorem rdIS_zig (x : Int) (r : List Int) (h1 : -9223372036854775808 ≤ x) (h2 : x ≤ 9223372036854775807) : rdIS (uv (zig x) ++ r) 0 = (x, r, 0) := by
  simp [rdIS, rdUS_uv _ r (zig_lt x h1 h2), unzig_zig]
def RetInts (w : World) (g : Nat) (l rest : List Int) (e : Ending) (w' : World) : Prop := ∃ A n c, e = .returned (.slice A n c) ∧ Own .i64 3 w' w.heap.size A n c l ∧ Rd w' g rest 0 ∧ w.grownBy w' (some g)

theorem Own.sink {k : IntKind} {T : TypeId} {w : World} {b b' : Nat} {A : Option Addr} {n c : Nat} {l : List Int} (h : Own k T w b A n c l) (hb : b' ≤ b) : Own k T w b' A n c l := by
  obtain ⟨h1, ⟨a1, a2⟩, h3⟩ := h
  refine ⟨h1, ⟨a1, ?_⟩, h3⟩
  rcases a2 with a2 | ⟨g, cap, cur, hv, hb', r⟩
  · exact .inl a2
  · exact .inr ⟨g, cap, cur, hv, by omega, r⟩
theorem Rd.below {w w' : World} {base g : Nat} {rest : List Int} {err : Int} (h : Rd w g rest err) (hB : Below base w w') (hg : g < base) : Rd w' g rest err := by
  obtain ⟨A, n, c, h1, hN, hb⟩ := h
  refine ⟨A, n, c, by rw [hB.block g hg]; exact h1, ⟨hN.len, hN.cap, hN.mx, hN.wf, fun hn => ?_⟩, hb⟩
  obtain ⟨b, o, e, h2, h3⟩ := hN.at_ hn
  have hbg := hb b o e hn
  exact ⟨b, o, e, Nat.lt_of_lt_of_le h2 hB.size, fun i hi => (hB.cell (p := ⟨b, o + i, none⟩) (by show b < base; omega)).trans (h3 i hi)⟩
theorem Rd.lt {w : World} {g : Nat} {rest : List Int} {err : Int} (h : Rd w g rest err) : g < w.heap.size := by
  obtain ⟨A, n, c, h1, _⟩ := h
  exact blk_lt h1
theorem grown_below {w w2 w3 : World} {r : Option Nat} (h : w.grownBy w2 r) (hB : Below w.heap.size w2 w3) : w.grownBy w3 r :=
  ⟨hB.os.trans h.os, hB.tape.trans h.tape, hB.output.trans h.output, Nat.le_trans h.size hB.size, fun i hi hne => (hB.block i hi).trans (h.block i hi hne)⟩
theorem Own.rd {w w' : World} {base g : Nat} {A : Option Addr} {n c : Nat} {l rest : List Int} {err : Int} (h : Own .i64 3 w base A n c l) (hR : Rd w g rest err) (hG : w.grownBy w' (some g)) : Own .i64 3 w' base A n c l := by
  obtain ⟨A', n', c', h1, _⟩ := hR
  exact ⟨h.1, World.ownsRow.kept h.2.1 hG (.inr (fun e => h.apart h1 (by decide) (by first | exact e | exact e.symm))), h.2.2⟩

end Go.Proofs.Ytbpfdogjjoceaaa
