/- Ints of the writer and the reader. -/
import Derived.Test.YtkbdmicnmddikaaRE
import Derived.Test.YtkbdmicnmddikaaP
import Derived.Test.YtkbdmicnmddikaaS10
namespace Go.Proofs.Ytkbdmicnmddikaa
open Go.RowKit

def intsB (l : List Int) : List Int := l.flatMap fun v => uv (zig v)
def encI (l : List Int) : List Int := uv l.length ++ intsB l
theorem intsB_len (l : List Int) (h : ∀ x ∈ l, (Lit.int .i64 x).wf = true) : (intsB l).length ≤ 10 * l.length := by
  induction l with
  | nil => simp [intsB]
  | cons a l ih =>
    have h1 := ih (fun x hx => h x (List.mem_cons_of_mem _ hx))
    have h2 := wf_i64 (h a List.mem_cons_self)
    have := uv_len10 (zig_lt a h2.1 h2.2)
    simp only [intsB, List.flatMap_cons, List.length_append, List.length_cons] at h1 ⊢
    omega

set_option maxHeartbeats 1000000 in
theorem wInts_c (g base : Nat) (A : Option Addr) (n c : Nat) (l l0 : List Int) (w : World) (hW : Wr w base g l0) (hN : ∀ w', Below base w w' → Nums .i64 w' A n c l) (hn : n ≤ 1000000) (hl0 : l0.length ≤ 1000000) (hbw : base ≤ w.heap.size) :
    Calls Try.prog 26 #[.pointer (some ⟨g, 0, none⟩), .slice A n c] w (RetW w base g (l0 ++ encI l)) := by
  have hlen : l.length = n := (hN w (Below.refl _ _)).len
  have HL := Lib.hid hlen
  clear hlen
  go_enter Try.func26, Try.ntmps26
  go_wp2_with fail
  refine (wUint_c n _ base _ _ hW (by omega) (by omega) hbw).mono ?_
  rintro e w1 ⟨rfl, hW1, hK1⟩
  go_wp2_with fail
  go_loopw [13] (fun ti wr => ∃ (k : Nat) (l' : List Int), k ≤ n ∧ ti = .int .i64 k ∧ Wr wr base g l' ∧ Keep base g w wr ∧ l'.length ≤ 1000010 + 10 * k ∧ Hid (l' ++ intsB (l.drop k) = l0 ++ encI l)) (fun ti _ => n - (intOf ti).toNat)
  case atStart => exact ⟨0, _, Nat.zero_le _, rfl, hW1, hK1, by have := uv_len10 (n := n) (by omega); simp only [List.length_append]; omega, show _ = _ by rw [encI, HL.out, List.append_assoc]; rfl⟩
  case round =>
    clear hW1 hK1
    obtain ⟨k, l', hk, rfl, hW', hK', hl', hs⟩ := hrel
    have hNw := hN wr hK'.1
    have hbr : base ≤ wr.heap.size := Nat.le_trans hbw hK'.1.size
    by_cases hkn : (k : Int) < (n : Int)
    · obtain ⟨b, o, x, rfl, hbl, hx, hwx, hcx⟩ := hNw.get (i := k) (by omega)
      obtain ⟨x1, x2⟩ := wf_i64 hwx
      have HD := Lib.hid (drop_at hx)
      have hl2 := len_app_le hl' x1 x2
      clear hNw hx
      go_wp2_with (go_at_call 45; refine (wInt_c x _ base _ _ hW' x1 x2 (by omega) hbr).mono ?_; rintro e w2 ⟨rfl, hW2, hK2⟩)
      go_roundw
      case rel => exact ⟨k + 1, _, by omega, by go_num, hW2, hK'.trans hK2, by omega, show _ = _ by rw [← hs.out, HD.out]; simp [intsB]⟩
      case measure => simp [intOf]; omega
    · have HE := Lib.hid (show l' = l0 ++ encI l by rw [← hs.out, List.drop_eq_nil_of_le (by rw [HL.out]; omega)]; simp [intsB])
      clear hNw
      go_wp2_with fail
      go_end0
      exact ⟨rfl, by rw [← HE.out]; exact hW', hK'⟩

/-- make([]T, 0, n): an empty row of the call's own, in the new block -/
theorem wpList_mk0 {P : Program} {S T : TypeId} {k : IntKind} {by8 : Nat} (it : IntT P S T k by8) (w : World) {ops : Array Oper} {rest : List Oper} {o : Oper} {a : Act} {Q : Exit → Act → World → Prop} (hgd : o.guard = none) (x y : Operand)
    (ho : o.op = Op.makeSlice S x y) (kl kc : IntKind) (L C : Int) (n : Nat) (hl : a.eval x = .int kl L) (hc : a.eval y = .int kc C) (hL : L = 0) (hC : C = (n : Int)) (hn : n ≤ 17592186044416)
    (h : ∀ w', Own k T w' w.heap.size (some ⟨w.heap.size, 0, none⟩) 0 n [] → E w w' → w'.heap.size = w.heap.size + 1 → wpList P ops Q rest (a.put o.dst (.slice (some ⟨w.heap.size, 0, none⟩) 0 n)) w') :
    wpList P ops Q (o :: rest) a w := by
  obtain ⟨i, hi, hz0, hz1, hz2⟩ := info_parts it.info
  have hsm := it.small
  have hb : i.bytes * n ≤ 281474976710656 := by
    rw [hz2]
    have : by8 * n ≤ 8 * n := Nat.mul_le_mul_right _ hsm
    omega
  refine wpList_plain hgd fun K hK' => ?_
  have hbI : (i.bytes : Int) * (n : Int) ≤ 281474976710656 := by
    have h : ((i.bytes * n : Nat) : Int) ≤ 281474976710656 := by omega
    rwa [Int.natCast_mul] at h
  have hr := run_make (P := P) w S T i (.int k 0) it.und hi hz0 kl kc 0 n (by omega) (by omega) hbI (by omega)
  simp only [Int.toNat_natCast, Int.toNat_zero] at hr
  subst hL
  subst hC
  unfold Oper.wp
  simp [execOp, ho, hl, hc, hr, Result.andThen]
  refine hK' _ _ (h _ ⟨by simp, ⟨by simp, .inr ⟨w.heap.size, n, _, rfl, Nat.le_refl _, heap_alloc_new w _, Nat.zero_le _, by unfold maxLen; omega, by rw [size_madeCells, hz1], ?_⟩⟩, ?_⟩ ((E.refl w).alloc _) (by simp))
  · simp
  · simp

theorem intsB_ge (l : List Int) : l.length ≤ (intsB l).length := by
  induction l with
  | nil => simp [intsB]
  | cons a l ih =>
    have : 0 < (uv (zig a)).length := by
      by_cases h : zig a < 128
      · rw [uv_small h]; simp
      · rw [uv_big h]; simp
    simp only [intsB, List.flatMap_cons, List.length_append, List.length_cons] at ih ⊢
    omega
theorem rdUS_uv (v : Nat) (r : List Int) (hv : v < 18446744073709551616) : rdUS (uv v ++ r) 0 = ((v : Int), r, 0) := by
  have := rdU_uv v 0 0 r (by omega) (fun h => absurd h (by omega)) (by simpa using hv)
  simp [rdUS, this]
theorem rdIS_zig (x : Int) (r : List Int) (h1 : -9223372036854775808 ≤ x) (h2 : x ≤ 9223372036854775807) : rdIS (uv (zig x) ++ r) 0 = (x, r, 0) := by
  simp [rdIS, rdUS_uv _ r (zig_lt x h1 h2), unzig_zig]
def RetInts (w : World) (g : Nat) (l rest : List Int) (e : Ending) (w' : World) : Prop := ∃ A n c, e = .returned (.slice A n c) ∧ Own .i64 3 w' w.heap.size A n c l ∧ Rd w' g rest 0 ∧ w.grownBy w' (some g)

theorem Own.sink {k : IntKind} {T : TypeId} {w : World} {b b' : Nat} {A : Option Addr} {n c : Nat} {l : List Int} (h : Own k T w b A n c l) (hb : b' ≤ b) : Own k T w b' A n c l := by
  obtain ⟨h1, ⟨a1, a2⟩, h3⟩ := h
  refine ⟨h1, ⟨a1, ?_⟩, h3⟩
  rcases a2 with a2 | ⟨g, cap, cur, hv, hb', r⟩
  · exact .inl a2
  · exact .inr ⟨g, cap, cur, hv, by omega, r⟩
theorem Rd.below {w w' : World} {base g : Nat} {rest : List Int} {err : Int} (h : Rd w g rest err) (hB : Below base w w') (hg : g < base) : Rd w' g rest err := by
  obtain ⟨A, n, c, h1, hN, hb⟩ := h
  refine ⟨A, n, c, by rw [hB.block g hg]; exact h1, ⟨hN.len, hN.cap, hN.mx, hN.wf, fun hn => ?_⟩, hb⟩
  obtain ⟨b, o, e, h2, h3⟩ := hN.at_ hn
  have hbg := hb b o e hn
  exact ⟨b, o, e, Nat.lt_of_lt_of_le h2 hB.size, fun i hi => (hB.cell (p := ⟨b, o + i, none⟩) (by show b < base; omega)).trans (h3 i hi)⟩
theorem Rd.lt {w : World} {g : Nat} {rest : List Int} {err : Int} (h : Rd w g rest err) : g < w.heap.size := by
  obtain ⟨A, n, c, h1, _⟩ := h
  exact blk_lt h1
theorem grown_below {w w2 w3 : World} {r : Option Nat} (h : w.grownBy w2 r) (hB : Below w.heap.size w2 w3) : w.grownBy w3 r :=
  ⟨hB.os.trans h.os, hB.tape.trans h.tape, hB.output.trans h.output, Nat.le_trans h.size hB.size, fun i hi hne => (hB.block i hi).trans (h.block i hi hne)⟩
theorem Own.rd {w w' : World} {base g : Nat} {A : Option Addr} {n c : Nat} {l rest : List Int} {err : Int} (h : Own .i64 3 w base A n c l) (hR : Rd w g rest err) (hG : w.grownBy w' (some g)) : Own .i64 3 w' base A n c l := by
  obtain ⟨A', n', c', h1, _⟩ := hR
  exact ⟨h.1, World.ownsRow.kept h.2.1 hG (.inr (fun e => h.apart h1 (by decide) (by first | exact e | exact e.symm))), h.2.2⟩

set_option maxHeartbeats 1000000 in
theorem list_c (g : Nat) (l rest : List Int) (w : World) (h : Rd w g (encI l ++ rest) 0) (hl : ∀ x ∈ l, (Lit.int .i64 x).wf = true) (hn : l.length ≤ 1000000) :
    Calls Try.prog 47 #[.pointer (some ⟨g, 0, none⟩), .func (.func 48) #[.pointer (some ⟨g, 0, none⟩)] #[]] w (RetInts w g l rest) := by
  have hcall := Try.call48
  have HL := Lib.hid hl
  clear hl
  obtain ⟨m, hm⟩ : ∃ m, l.length = m := ⟨_, rfl⟩
  rw [hm] at hn
  have HU := Lib.hid (show rdUS (encI l ++ rest) 0 = ((m : Int), intsB l ++ rest, 0) by rw [encI, hm, List.append_assoc]; exact rdUS_uv _ _ (by omega))
  have HM := Lib.hid hm
  clear hm
  go_enter Try.func47, Try.ntmps47
  go_wp2_with fail
  refine (rUint_c _ _ _ _ h).mono ?_
  rintro e w1 ⟨rfl, hR1, hG1⟩
  rw [HU.out] at hR1 ⊢
  obtain ⟨A1, n1, c1, hg1, hN1, hbd1⟩ := hR1
  have hc0 : w1.cell? ⟨g, 0, none⟩ = some (.slice A1 n1 c1) := by rw [cell_of_row _ _ _ _ _ _ hg1]; rfl
  have hc1 : w1.cell? ⟨g, 1, none⟩ = some (.int .i64 0) := by rw [cell_of_row _ _ _ _ _ _ hg1]; rfl
  have hmn : (m : Int) ≤ (n1 : Int) := by have := hN1.len; have := intsB_ge l; have := HM.out; simp only [List.length_append] at *; omega
  have hn63 := hN1.n63
  have HR1 : Rd w1 g (intsB l ++ rest) 0 := ⟨A1, n1, c1, hg1, hN1, hbd1⟩
  clear hg1 hN1 hbd1
  go_wp2_with (at_make; refine wpList_mk0 intT3 _ rfl _ _ rfl _ _ _ _ m rfl rfl rfl rfl (by omega) ?_; intro w2 hO2 hE2 hz2)
  have hgw := h.lt
  have hO2' := hO2.sink (b' := w.heap.size) hG1.size
  have hR2 : Rd w2 g (intsB l ++ rest) 0 := HR1.below hE2 HR1.lt
  have hG2 : w.grownBy w2 (some g) := grown_below hG1 (Below.mono hE2 hG1.size)
  clear hc0 hc1 HR1 hG1 hO2 hE2 hz2 h
  go_loopw [6, 30] (fun t6 ti wr => ∃ (k c : Nat) (A : Option Addr), k ≤ m ∧ ti = .int .i64 k ∧ t6 = .slice A k c ∧ Own .i64 3 wr w.heap.size A k c (l.take k) ∧ Rd wr g (intsB (l.drop k) ++ rest) 0 ∧ w.grownBy wr (some g)) (fun _ ti _ => m - (intOf ti).toNat)
  case atStart => exact ⟨0, m, _, Nat.zero_le _, rfl, rfl, hO2', hR2, hG2⟩
  case round =>
    clear hO2' hR2 hG2
    obtain ⟨k, c, A, hk, rfl, rfl, hO, hR, hG⟩ := hrel
    have hbase : w.heap.size ≤ wr.heap.size := hG.size
    by_cases hkm : (k : Int) < (m : Int)
    · obtain ⟨x, hx⟩ : ∃ x, l[k]? = some x := ⟨l[k]'(by rw [HM.out]; omega), List.getElem?_eq_getElem (by rw [HM.out]; omega)⟩
      have hwx := HL.out x (List.mem_of_getElem? hx)
      obtain ⟨x1, x2⟩ := wf_i64 hwx
      have HD := Lib.hid (drop_at hx)
      have HT := Lib.hid (show l.take (k + 1) = l.take k ++ [x] by rw [List.take_add_one, hx]; rfl)
      have HI := Lib.hid (show rdIS (intsB (l.drop k) ++ rest) 0 = (x, intsB (l.drop (k + 1)) ++ rest, 0) by
        rw [HD.out]; simp only [intsB, List.flatMap_cons, List.append_assoc]; exact rdIS_zig x _ x1 x2)
      clear hx
      go_wp2_with fail
      refine (rInt_c _ _ _ _ hR).mono ?_
      rintro e w3 ⟨rfl, hR3, hG3⟩
      rw [HI.out] at hR3 ⊢
      have hO3 := hO.rd hR hG3
      have hG03 := grownBy_trans hG hG3
      have hb3 : w.heap.size ≤ w3.heap.size := hG03.size
      clear hO hR hG hG3
      go_wp2_with (at_builtin; refine wpList_app1n intT3 _ rfl _ _ rfl _ _ _ _ _ rfl hO3 _ rfl hwx (by omega) hb3 ?_; intro g' c2 w4 hO4 hG4 hB4 hor; have hR4 := hR3.below hB4 hgw; have hc4 := hR4.cells.1)
      go_roundw
      case rel => exact ⟨k + 1, c2, _, by omega, by go_num, rfl, by rw [HT.out]; exact hO4, hR4, grown_below hG03 hB4⟩
      case measure => simp [intOf]; omega
    · have hkm' : m = k := by omega
      have HE := Lib.hid hkm'
      clear hkm'
      go_wp2_with fail
      go_ret
      have e1 : l.take k = l := List.take_of_length_le (by rw [HM.out, HE.out]; omega)
      have e2 : l.drop k = [] := List.drop_eq_nil_of_le (by rw [HM.out, HE.out]; omega)
      rw [e1] at hO
      rw [e2] at hR
      exact ⟨A, k, c, rfl, hO, hR, hG⟩

set_option maxHeartbeats 1000000 in
theorem rInts_c (g : Nat) (l rest : List Int) (w : World) (h : Rd w g (encI l ++ rest) 0) (hl : ∀ x ∈ l, (Lit.int .i64 x).wf = true) (hn : l.length ≤ 1000000) :
    Calls Try.prog 29 #[.pointer (some ⟨g, 0, none⟩)] w (RetInts w g l rest) := by
  go_enter Try.func29, Try.ntmps29
  go_wp2_with fail
  refine (list_c _ l rest _ h hl hn).mono ?_
  rintro e w1 ⟨A1, n1, c1, rfl, hO1, hR1, hG1⟩
  go_wp2_with fail
  go_ret
  exact ⟨A1, n1, c1, rfl, hO1, hR1, hG1⟩
end Go.Proofs.Ytkbdmicnmddikaa
