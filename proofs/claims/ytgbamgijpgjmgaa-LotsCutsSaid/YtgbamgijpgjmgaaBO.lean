/- Lemmas of the claim, joined: V H MW V2 RD RE HC HA HB. No condition. -/
import Derived.WalkKit
import Derived.Test.YtgbamgijpgjmgaaBA
import Derived.Test.YtgbamgijpgjmgaaChecked
import Derived.Test.YtgbamgijpgjmgaaBE
import Derived.RangeFuncNested
import Derived.RangeFuncBound
import Derived.RangeFuncCalls
import Derived.RangeFuncLeaves
import Derived.RangeFuncFrom
import Derived.Shelf.Abstract
import Derived.Shelf.RegionOpen
import Derived.OwnWalkIn
import Derived.TacticsInMore
import Derived.LoopNIn
import Derived.LoopIn
import Derived.Laws.Bits64b
import Derived.RangeFuncBox
import Derived.Lib.ConvBytes
/- Plain facts on bits, zigzag and variable-length numbers. -/
namespace Go.Proofs.Ytgbamgijpgjmgaa
open Go.RowKit

def zig (n : Int) : Nat := if 0 ≤ n then (2 * n).toNat else (-2 * n - 1).toNat
theorem bits_xor_u64 (a b : Int) : bits .xor .u64 a b = IntKind.u64.wrap ((BitVec.ofInt 64 a ^^^ BitVec.ofInt 64 b).toNat : Int) := rfl
theorem zig_bits (n : Int) (h1 : -9223372036854775808 ≤ n) (h2 : n ≤ 9223372036854775807) :
    bits .xor .u64 (IntKind.u64.wrap (IntKind.u64.wrap n * 2)) (IntKind.u64.wrap (n / 9223372036854775808)) = (zig n : Int) := by
  have hw : ∀ x : Int, IntKind.u64.wrap x = x % 18446744073709551616 := fun x => IntKind.wrap_u64 x
  rw [bits_xor_u64]
  by_cases h : 0 ≤ n
  · have e1 : IntKind.u64.wrap (n / 9223372036854775808) = 0 := by rw [hw]; omega
    have e2 : IntKind.u64.wrap (IntKind.u64.wrap n * 2) = ((2 * n).toNat : Int) := by rw [hw, hw]; omega
    rw [e1, e2]
    have e3 : BitVec.ofInt 64 0 = 0#64 := by decide
    rw [e3, BitVec.xor_zero, BitVec.ofInt_natCast, BitVec.toNat_ofNat]
    simp only [zig, if_pos h]
    rw [hw]
    omega
  · have e1 : IntKind.u64.wrap (n / 9223372036854775808) = 18446744073709551615 := by rw [hw]; omega
    have e2 : IntKind.u64.wrap (IntKind.u64.wrap n * 2) = ((2 * n + 18446744073709551616).toNat : Int) := by rw [hw, hw]; omega
    rw [e1, e2]
    have e3 : BitVec.ofInt 64 18446744073709551615 = BitVec.allOnes 64 := by decide
    rw [e3, BitVec.xor_allOnes, BitVec.toNat_not, BitVec.ofInt_natCast, BitVec.toNat_ofNat]
    simp only [zig, if_neg h]
    rw [hw]
    omega
theorem zig_lt (n : Int) (h1 : -9223372036854775808 ≤ n) (h2 : n ≤ 9223372036854775807) : zig n < 18446744073709551616 := by
  unfold zig; split <;> omega
theorem or128_fin : ∀ x : Fin 256, bits .or .u8 ((x.val : Nat) : Int) 128 = ((x.val % 128 + 128 : Nat) : Int) := by decide +kernel
theorem or128 (x : Int) (h0 : 0 ≤ x) (h1 : x < 256) : bits .or .u8 x 128 = x % 128 + 128 := by
  have := or128_fin ⟨x.toNat, by omega⟩
  simp only at this
  rw [show ((x.toNat : Nat) : Int) = x by omega] at this
  rw [this]; omega

/-- the bytes of a number, 7 bits each, the lowest first -/
def uv (n : Nat) : List Int := if n < 128 then [(n : Int)] else ((n % 128 + 128 : Nat) : Int) :: uv (n / 128)
termination_by n
decreasing_by omega
theorem uv_small {n : Nat} (h : n < 128) : uv n = [(n : Int)] := by rw [uv, if_pos h]
theorem uv_big {n : Nat} (h : ¬ n < 128) : uv n = ((n % 128 + 128 : Nat) : Int) :: uv (n / 128) := by rw [uv, if_neg h]
theorem uv_len {n : Nat} : ∀ k, n < 128 ^ (k + 1) → (uv n).length ≤ k + 1
  | 0, h => by rw [uv_small (by simpa using h)]; simp
  | k + 1, h => by
    by_cases hs : n < 128
    · rw [uv_small hs]; simp
    · rw [uv_big hs]
      have : n / 128 < 128 ^ (k + 1) := by rw [Nat.pow_succ] at h; exact Nat.div_lt_of_lt_mul (by rw [Nat.mul_comm]; exact h)
      have := uv_len k this
      simp; omega
theorem uv_len10 {n : Nat} (h : n < 18446744073709551616) : (uv n).length ≤ 10 := uv_len 9 (by omega)
end Go.Proofs.Ytgbamgijpgjmgaa
/- Contracts of the writer of package wire. -/
namespace Go.Proofs.Ytgbamgijpgjmgaa
open Go.RowKit

theorem byteT : IntT Try.prog 52 5 .u8 1 := ⟨Try.underlying52, by kernel_rfl, by decide⟩

set_option maxHeartbeats 400000 in
theorem zigzag_c (n : Int) (w : World) (h1 : -9223372036854775808 ≤ n) (h2 : n ≤ 9223372036854775807) :
    Calls Try.prog 92 #[.int .i64 n] w fun e w' => e = .returned (.int .u64 (zig n)) ∧ w = w' := by
  have HZ := Lib.hid (zig_bits n h1 h2)
  go_enter Try.func92, Try.ntmps92
  go_wp2
  go_ret
  exact ⟨ret_int HZ.out, rfl⟩

theorem Own.far {k : IntKind} {T : TypeId} {w : World} {base : Nat} {A : Option Addr} {n c : Nat} {l : List Int} (h : Own k T w base A n c l) {p : Addr} (hp : (Value.slice A n c).ownBlock ≠ some p.block) (u : Value) : Own k T (w.setCell p u) base A n c l := by
  obtain ⟨h1, ⟨a1, a2⟩, h3⟩ := h
  refine ⟨h1, ⟨a1, ?_⟩, h3⟩
  rcases a2 with a2 | ⟨g, cap, cur, hv, hb, hh, r⟩
  · exact .inl a2
  · refine .inr ⟨g, cap, cur, hv, hb, ?_, r⟩
    rw [Below.heap_setCell _ _ _ _ (fun e => hp (by rw [hv]; simp [Value.ownBlock, e]))]
    exact hh
theorem Own.apart {k : IntKind} {T T' : TypeId} {w : World} {base : Nat} {A : Option Addr} {n c g : Nat} {l : List Int} {cs : Array Value} (h : Own k T w base A n c l) (hg : w.heap[g]? = some (.cells cs T' (0, 0))) (hT : T ≠ T') : (Value.slice A n c).ownBlock ≠ some g := by
  obtain ⟨h1, ⟨a1, a2⟩, h3⟩ := h
  rcases a2 with ⟨hv, _⟩ | ⟨g', cap, cur, hv, hb, hh, r⟩
  · rw [hv]; simp [Value.ownBlock]
  · intro he
    rw [hv] at he
    have : g' = g := by simpa [Value.ownBlock] using he
    subst this
    rw [hh] at hg
    injection hg with hg
    injection hg with _ ht
    exact hT ht

/-- block g is a writer that holds the bytes l; it and its row lie from block base on -/
def Wr (w : World) (base g : Nat) (l : List Int) : Prop := base ≤ g ∧ ∃ A n c, w.heap[g]? = some (.cells #[.slice A n c] 54 (0, 0)) ∧ Own .u8 5 w base A n c l
theorem blk_lt {w : World} {g : Nat} {o : Obj} (h : w.heap[g]? = some o) : g < w.heap.size := by
  rcases Nat.lt_or_ge g w.heap.size with hlt | hge
  · exact hlt
  · rw [Array.getElem?_eq_none hge] at h; cases h
theorem Wr.e {w w' : World} {base g : Nat} {l : List Int} (h : Wr w base g l) (he : E w w') : Wr w' base g l := by
  obtain ⟨hb, A, n, c, h1, h2⟩ := h
  exact ⟨hb, A, n, c, by rw [he.block (blk_lt h1)]; exact h1, h2.e he⟩
/-- below base nothing has turned, and above it no block but g and blocks of bytes -/
def Keep (base g : Nat) (w w' : World) : Prop := Below base w w' ∧ ∀ k, k < w.heap.size → k ≠ g → (∀ cs fr, w.heap[k]? ≠ some (.cells cs 5 fr)) → w'.heap[k]? = w.heap[k]?
theorem Keep.refl (base g : Nat) (w : World) : Keep base g w w := ⟨Below.refl _ _, fun _ _ _ _ => rfl⟩
theorem Keep.trans {base g : Nat} {a b c : World} (h : Keep base g a b) (k : Keep base g b c) : Keep base g a c :=
  ⟨h.1.trans k.1, fun i hi hne hb => by
    have e := h.2 i hi hne hb
    rw [k.2 i (Nat.lt_of_lt_of_le hi h.1.size) hne (by rw [e]; exact hb), e]⟩
def RetW (w : World) (base g : Nat) (l : List Int) (e : Ending) (w' : World) : Prop := e = .returned (.tuple #[]) ∧ Wr w' base g l ∧ Keep base g w w'

theorem wr_app {w w1 : World} {base g n c g' c' : Nat} {l l' : List Int} {A : Option Addr} (hb : base ≤ g) (hg : w.heap[g]? = some (.cells #[.slice A n c] 54 (0, 0))) (hO : Own .u8 5 w base A n c l) (hbw : base ≤ w.heap.size)
    (hO1 : Own .u8 5 w1 base (some ⟨g', 0, none⟩) (n + 1) c' l') (hG : w.grownBy w1 (Value.slice A n c).ownBlock) :
    w1.cell? ⟨g, 0, none⟩ = some (.slice A n c) ∧ w1.frozen? ⟨g, 0, none⟩ = false ∧ Wr (w1.setCell ⟨g, 0, none⟩ (.slice (some ⟨g', 0, none⟩) (n + 1) c')) base g l' ∧ Keep base g w (w1.setCell ⟨g, 0, none⟩ (.slice (some ⟨g', 0, none⟩) (n + 1) c')) := by
  have hne := hO.apart hg (by decide)
  have hg1 : w1.heap[g]? = some (.cells #[.slice A n c] 54 (0, 0)) := by rw [hG.block g (blk_lt hg) (fun e => hne e.symm)]; exact hg
  refine ⟨by rw [cell_of_row _ _ _ _ _ _ hg1]; rfl, frozen_of_row _ _ _ _ _ hg1, ⟨hb, _, _, _, ?_, hO1.far (p := ⟨g, 0, none⟩) (hO1.apart hg1 (by decide)) _⟩, ?_, ?_⟩
  · rw [heap_setCell_same _ _ _ _ _ _ hg1]; rfl
  · exact ((Below.refl base w).grown hG hbw (ownBlock_le hO)).setCell (p := ⟨g, 0, none⟩) hb _
  · intro k hk hkg hnb
    rw [Below.heap_setCell _ _ _ _ hkg]
    refine hG.block k hk (fun e => ?_)
    obtain ⟨_, ⟨_, a2⟩, _⟩ := hO
    rcases a2 with ⟨hv, _⟩ | ⟨q, cap, cur, hv, _, hh, _⟩
    · rw [hv] at e; simp [Value.ownBlock] at e
    · rw [hv] at e
      have : k = q := by simpa [Value.ownBlock] using e
      subst this
      exact hnb _ _ hh

set_option maxHeartbeats 1000000 in
theorem wUint_c (v g base : Nat) (l : List Int) (w : World) (hW : Wr w base g l) (hv : v < 18446744073709551616) (hl : l.length ≤ 549755813888) (hbw : base ≤ w.heap.size) :
    Calls Try.prog 67 #[.pointer (some ⟨g, 0, none⟩), .int .u64 v] w (RetW w base g (l ++ uv v)) := by
  have hu := uv_len10 hv
  have HV := Lib.hid hv
  clear hv
  go_enter Try.func67, Try.ntmps67
  go_wp2
  go_loopw [1] (fun t wr => ∃ (v' : Nat) (l' : List Int), t = .int .u64 v' ∧ Hid (v' < 18446744073709551616) ∧ Wr wr base g l' ∧ Keep base g w wr ∧ Hid (l' ++ uv v' = l ++ uv v)) (fun t _ => (intOf t).toNat)
  case atStart => exact ⟨v, l, rfl, HV.out, hW, Keep.refl _ _ _, rfl⟩
  case round =>
    obtain ⟨v', l', rfl, hv', ⟨hbg, A, n, c, hg, hO⟩, hB, hs⟩ := hrel
    have hn : n ≤ 549755813900 := by
      have := congrArg List.length hs.out
      simp only [List.length_append] at this
      rw [hO.1] at this; omega
    have hbr : base ≤ wr.heap.size := by have := hB.1.size; omega
    have hc0 : wr.cell? ⟨g, 0, none⟩ = some (.slice A n c) := by rw [cell_of_row _ _ _ _ _ _ hg]; rfl
    have HG := Lib.hid hg
    clear hg
    have e1 : bits .or .u8 ((v' : Int) % 256) 128 = (((v' % 128 + 128 : Nat) : Int)) := by rw [or128 _ (by omega) (by omega)]; omega
    have E1 := Lib.hid e1
    clear e1
    by_cases h128 : 128 ≤ (v' : Int)
    · have HU := Lib.hid (uv_big (n := v') (by omega))
      go_wp2_with (at_builtin; rw [E1.out]; refine wpList_app1n byteT _ rfl _ _ rfl _ _ _ _ _ rfl hO _ rfl (WalkArith.wf_u8 (by omega)) (by omega) hbr ?_; intro g' c2 w1 hO1 hG hB1 hor; obtain ⟨hc1, hf1, hW1, hK1⟩ := wr_app hbg HG.out hO hbr hO1 hG)
      go_roundw
      case rel => exact ⟨v' / 128, _, by go_num, show v' / 128 < 18446744073709551616 by have := hv'.out; omega, hW1, hB.trans hK1, show _ = _ by rw [← hs.out, HU.out]; simp⟩
      case measure => simp [intOf]; omega
    · have HU := Lib.hid (uv_small (n := v') (by omega))
      go_wp2_with (at_builtin; refine wpList_app1n byteT _ rfl _ _ rfl _ _ _ _ _ rfl hO _ rfl (WalkArith.wf_u8 (by omega)) (by omega) hbr ?_; intro g' c2 w1 hO1 hG hB1 hor; obtain ⟨hc1, hf1, hW1, hK1⟩ := wr_app hbg HG.out hO hbr hO1 hG)
      go_end0
      refine ⟨rfl, ?_, hB.trans hK1⟩
      rw [← hs.out, HU.out]
      exact hW1

set_option maxHeartbeats 400000 in
theorem wInt_c (v : Int) (g base : Nat) (l : List Int) (w : World) (hW : Wr w base g l) (h1 : -9223372036854775808 ≤ v) (h2 : v ≤ 9223372036854775807) (hl : l.length ≤ 549755813888) (hbw : base ≤ w.heap.size) :
    Calls Try.prog 68 #[.pointer (some ⟨g, 0, none⟩), .int .i64 v] w (RetW w base g (l ++ uv (zig v))) := by
  have HZ := Lib.hid (zig_lt v h1 h2)
  go_enter Try.func68, Try.ntmps68
  go_wp2_with (first
    | (go_at_call 92; refine (zigzag_c _ _ h1 h2).mono ?_; rintro e w' ⟨rfl, rfl⟩)
    | (go_at_call 67; refine (wUint_c _ _ base _ _ hW HZ.out hl hbw).mono ?_; rintro e w' ⟨rfl, hW1, hB1⟩))
  go_end0
  exact ⟨rfl, hW1, hB1⟩
end Go.Proofs.Ytgbamgijpgjmgaa
/- slices.Clone of bytes; Done. -/
namespace Go.Proofs.Ytgbamgijpgjmgaa
open Go.RowKit

set_option maxHeartbeats 400000 in
theorem cloneB_c (A : Option Addr) (n c : Nat) (l : List Int) (w : World) (h : Nums .u8 w A n c l) (hn : n ≤ 1099511627776) :
    Calls Try.prog 69 #[.slice A n c] w (RetOwn .u8 5 w l) := by
  rcases A with _ | ad
  · have h0 : n = 0 := by
      rcases Nat.eq_zero_or_pos n with h0 | h0
      · exact h0
      · obtain ⟨_, _, hh, _⟩ := h.at_ h0; cases hh
    have hl : l = [] := List.eq_nil_of_length_eq_zero (by rw [h.len, h0])
    have HL := Lib.hid hl
    clear h0 hl hn
    have hnil : ∀ W : World, (binOp .eql 52 (.slice none n c) (.slice none 0 0)).run Try.prog W = .ok (.bool true) W := fun W => Lib.run_eql_slice_nil W _ _ _ _ _ _ _ Try.underlying52
    go_enter Try.func69, Try.ntmps69
    go_wp2
    go_ret
    exact RetOwn.mk_ HL.out (Own.nil _ _ _ _) (E.refl _)
  · have hE := (E.refl w).alloc (.cells #[] 5)
    have h' := h.e hE
    have HN := Lib.hid hn
    clear hn
    have hnil : ∀ W : World, (binOp .eql 52 (.slice (some ad) n c) (.slice none 0 0)).run Try.prog W = .ok (.bool false) W := fun W => Lib.run_eql_slice_nil W _ _ _ _ _ _ _ Try.underlying52
    go_enter Try.func69, Try.ntmps69
    go_wp2_with (at_builtin; refine wpList_appN byteT _ rfl _ _ rfl w.heap.size _ _ _ [] rfl (Own.empty w _ _) _ _ _ l rfl h' (by have := HN.out; omega) (by simp) ?_; intro A' c' w1 hO hG hB)
    go_ret
    exact RetOwn.mk_ rfl (by simpa using hO) (hE.up hB)

set_option maxHeartbeats 400000 in
theorem wDone_c (g base : Nat) (l : List Int) (w : World) (hW : Wr w base g l) (hl : l.length ≤ 1099511627776) :
    Calls Try.prog 44 #[.pointer (some ⟨g, 0, none⟩)] w (RetOwn .u8 5 w l) := by
  obtain ⟨hb, A, n, c, hg, hO⟩ := hW
  have hc0 : w.cell? ⟨g, 0, none⟩ = some (.slice A n c) := by rw [cell_of_row _ _ _ _ _ _ hg]; rfl
  have HN := Lib.hid (show n ≤ 1099511627776 by rw [← hO.1]; exact hl)
  clear hg hl
  go_enter Try.func44, Try.ntmps44
  go_wp2_with (go_at_call 69; refine (cloneB_c _ _ _ _ _ hO.reads HN.out).mono ?_; rintro e w' ⟨A', n', c', rfl, hO', hE'⟩)
  go_ret
  exact RetOwn.mk_ rfl hO' hE'

theorem Wr.new (w : World) : Wr (w.alloc (.cells #[.slice none 0 0] 54)) w.heap.size w.heap.size [] := ⟨Nat.le_refl _, none, 0, 0, heap_alloc_new w _, Own.nil _ _ _ _⟩
theorem len_app_le {a : List Int} {m : Nat} {v : Int} (h : a.length ≤ m) (h1 : -9223372036854775808 ≤ v) (h2 : v ≤ 9223372036854775807) : (a ++ uv (zig v)).length ≤ m + 10 := by
  have := uv_len10 (zig_lt v h1 h2); simp; omega
theorem wf_u8 {x : Int} (h : (Lit.int .u8 x).wf = true) : 0 ≤ x ∧ x ≤ 255 := by
  have h' : IntKind.u8.min ≤ x ∧ x ≤ IntKind.u8.max := by simpa [Lit.wf] using h
  have e : IntKind.u8.min = 0 := by decide
  have e2 : IntKind.u8.max = 255 := by decide
  rw [e, e2] at h'; exact h'
end Go.Proofs.Ytgbamgijpgjmgaa
/- Plain facts on reading variable-length numbers. -/
namespace Go.Proofs.Ytgbamgijpgjmgaa
open Go.RowKit

/-- read a number: i bytes have been read, they make n; what it is, the bytes that are left, the error -/
def rdU : Nat → Nat → List Int → Nat × List Int × Int
  | _, _, [] => (0, [], 3)
  | i, n, b :: r => if (i = 9 ∧ 1 < b) ∨ (0 < i ∧ b = 0) then (0, r, 2) else if b < 128 then (n + b.toNat * 128 ^ i, r, 0) else rdU (i + 1) (n + (b.toNat % 128) * 128 ^ i) r

/-- what is read off the encoding of v is v -/
theorem rdU_uv : ∀ (v i n : Nat) (r : List Int), i ≤ 9 → (0 < i → 0 < v) → n + v * 128 ^ i < 18446744073709551616 → rdU i n (uv v ++ r) = (n + v * 128 ^ i, r, 0) := by
  intro v
  induction v using Nat.strongRecOn with
  | _ v ih =>
    intro i n r hi h0 hv
    by_cases hs : v < 128
    · rw [uv_small hs]
      show (if (i = 9 ∧ 1 < (v : Int)) ∨ (0 < i ∧ (v : Int) = 0) then _ else if (v : Int) < 128 then _ else _) = _
      rw [if_neg, if_pos (by omega)]
      · simp
      · rintro (⟨rfl, h⟩ | ⟨h1, h2⟩)
        · have : (128 : Nat) ^ 9 = 9223372036854775808 := by decide
          rw [this] at hv; omega
        · have := h0 h1; omega
    · rw [uv_big hs]
      have hi9 : i < 9 := by
        rcases Nat.lt_or_ge i 9 with h | h
        · exact h
        · have : i = 9 := by omega
          subst this
          have : (128 : Nat) ^ 9 = 9223372036854775808 := by decide
          rw [this] at hv; omega
      show (if (i = 9 ∧ 1 < ((v % 128 + 128 : Nat) : Int)) ∨ (0 < i ∧ ((v % 128 + 128 : Nat) : Int) = 0) then _ else if ((v % 128 + 128 : Nat) : Int) < 128 then _ else rdU (i + 1) (n + ((((v % 128 + 128 : Nat) : Int)).toNat % 128) * 128 ^ i) (uv (v / 128) ++ r)) = _
      rw [if_neg (by omega), if_neg (by omega), Int.toNat_natCast, show (v % 128 + 128) % 128 = v % 128 by omega]
      have hp : (128 : Nat) ^ (i + 1) = 128 * 128 ^ i := by rw [Nat.pow_succ, Nat.mul_comm]
      have hsum : n + (v % 128) * 128 ^ i + (v / 128) * 128 ^ (i + 1) = n + v * 128 ^ i := by
        rw [hp, ← Nat.mul_assoc, Nat.add_assoc, ← Nat.add_mul]
        congr 2
        omega
      rw [ih (v / 128) (by omega) (i + 1) _ r (by omega) (fun _ => by omega) (by rw [hsum]; exact hv), hsum]
/-- what was read without an error is the encoding of what it gave -/
theorem rdU_back : ∀ (l : List Int) (i n v : Nat) (r : List Int), (∀ x ∈ l, 0 ≤ x ∧ x ≤ 255) → i ≤ 9 → n < 128 ^ i → rdU i n l = (v, r, 0) → ∃ u, v = n + u * 128 ^ i ∧ l = uv u ++ r ∧ v < 18446744073709551616 ∧ (0 < i → 0 < u)
  | [], _, _, _, _, _, _, _, h => by simp [rdU] at h
  | b :: l, i, n, v, r, hb, hi, hn, h => by
    have hb0 := hb b List.mem_cons_self
    rw [rdU] at h
    split at h
    · simp at h
    · rename_i hbad
      split at h
      · rename_i hlt
        simp only [Prod.mk.injEq, and_true] at h
        obtain ⟨rfl, rfl⟩ := h
        refine ⟨b.toNat, rfl, ?_, ?_, ?_⟩
        · rw [uv_small (by omega)]; simp; omega
        · rcases Nat.lt_or_ge i 9 with h9 | h9
          · have h1 : (128 : Nat) ^ i ≤ 128 ^ 8 := Nat.pow_le_pow_right (by omega) (by omega)
            have h2 : (128 : Nat) ^ 8 = 72057594037927936 := by decide
            have h3 : b.toNat * 128 ^ i ≤ 127 * 128 ^ i := Nat.mul_le_mul_right _ (by omega)
            omega
          · have : i = 9 := by omega
            subst this
            have h2 : (128 : Nat) ^ 9 = 9223372036854775808 := by decide
            rw [h2] at hn ⊢
            omega
        · intro h0
          rcases Nat.eq_zero_or_pos b.toNat with hz | hz
          · exact absurd (Or.inr ⟨h0, by omega⟩) hbad
          · exact hz
      · rename_i hge
        have h9 : i ≠ 9 := fun h9 => hbad (Or.inl ⟨h9, by omega⟩)
        have hp : (128 : Nat) ^ (i + 1) = 128 * 128 ^ i := by rw [Nat.pow_succ, Nat.mul_comm]
        have hm : (b.toNat % 128) * 128 ^ i ≤ 127 * 128 ^ i := Nat.mul_le_mul_right _ (by omega)
        obtain ⟨u, hv, hl, hlt, hpos⟩ := rdU_back l (i + 1) (n + (b.toNat % 128) * 128 ^ i) v r (fun x hx => hb x (List.mem_cons_of_mem _ hx)) (by omega) (by rw [hp]; omega) h
        have hu := hpos (by omega)
        refine ⟨u * 128 + b.toNat % 128, ?_, ?_, hlt, fun _ => by omega⟩
        · rw [hv, hp, Nat.add_mul, Nat.add_assoc, Nat.add_comm (u * 128 * 128 ^ i), Nat.mul_assoc u]
        · rw [uv_big (by omega), hl, show (u * 128 + b.toNat % 128) / 128 = u by omega]
          simp only [List.cons_append, List.cons.injEq, and_true]
          omega
def unzig (z : Nat) : Int := if z % 2 = 1 then -((z / 2 : Nat) : Int) - 1 else ((z / 2 : Nat) : Int)
theorem unzig_zig (n : Int) : unzig (zig n) = n := by
  unfold unzig zig
  by_cases h : 0 ≤ n
  · rw [if_pos h, if_neg (by omega)]; omega
  · rw [if_neg h, if_pos (by omega)]; omega
theorem zig_unzig (z : Nat) : zig (unzig z) = z := by
  unfold unzig zig
  by_cases h : z % 2 = 1
  · rw [if_pos h, if_neg (by omega)]; omega
  · rw [if_neg h, if_pos (by omega)]; omega
theorem unzig_range {z : Nat} (h : z < 18446744073709551616) : -9223372036854775808 ≤ unzig z ∧ unzig z ≤ 9223372036854775807 := by
  unfold unzig; split <;> omega

theorem and127_fin : ∀ x : Fin 256, bits .and .u8 ((x.val : Nat) : Int) 127 = ((x.val % 128 : Nat) : Int) := by decide +kernel
theorem and127 (x : Int) (h0 : 0 ≤ x) (h1 : x ≤ 255) : bits .and .u8 x 127 = ((x.toNat % 128 : Nat) : Int) := by
  have := and127_fin ⟨x.toNat, by omega⟩
  simp only at this
  rwa [show ((x.toNat : Nat) : Int) = x by omega] at this
theorem bits_or_u64 (a b : Nat) (ha : a < 18446744073709551616) (hb : b < 18446744073709551616) : bits .or .u64 (a : Int) (b : Int) = ((a ||| b : Nat) : Int) := by
  have e : bits .or .u64 (a : Int) (b : Int) = IntKind.u64.wrap ((BitVec.ofInt 64 (a : Int) ||| BitVec.ofInt 64 (b : Int)).toNat : Int) := rfl
  have hx : a ||| b < 2 ^ 64 := Nat.or_lt_two_pow (by omega) (by omega)
  rw [e, BitVec.toNat_or, BitVec.ofInt_natCast, BitVec.ofInt_natCast, BitVec.toNat_ofNat, BitVec.toNat_ofNat, Nat.mod_eq_of_lt (by omega), Nat.mod_eq_of_lt (by omega), IntKind.wrap_u64]
  omega
theorem pow_128 (i : Nat) : (128 : Nat) ^ i = 2 ^ (7 * i) := by rw [Nat.pow_mul]
theorem or_shift (b : Int) (m i : Nat) (h0 : 0 ≤ b) (h1 : b ≤ 255) (hm : m < 128 ^ i) (hlt : m + (b.toNat % 128) * 128 ^ i < 18446744073709551616) :
    bits .or .u64 (m : Int) (IntKind.u64.wrap (IntKind.u64.wrap (bits .and .u8 b 127) * 2 ^ (7 * i))) = ((m + (b.toNat % 128) * 128 ^ i : Nat) : Int) := by
  rw [and127 b h0 h1]
  have hw : ∀ x : Nat, x < 18446744073709551616 → IntKind.u64.wrap (x : Int) = (x : Int) := fun x hx => by rw [IntKind.wrap_u64]; omega
  rw [hw _ (by omega)]
  have e : (((b.toNat % 128 : Nat) : Int) * 2 ^ (7 * i)) = (((b.toNat % 128) * 128 ^ i : Nat) : Int) := by
    rw [pow_128]; simp
  rw [e, hw _ (by omega), bits_or_u64 _ _ (by omega) (by omega)]
  congr 1
  rw [pow_128] at hm ⊢
  rw [Nat.or_comm, Nat.mul_comm, ← Nat.two_pow_add_eq_or_of_lt hm, Nat.add_comm]

theorem shift_lt {b : Int} {m i : Nat} (h0 : 0 ≤ b) (hm : m < 128 ^ i) (hi : i ≤ 9) (h9 : ¬ (i = 9 ∧ 1 < b)) : m + (b.toNat % 128) * 128 ^ i < 18446744073709551616 ∧ (i ≠ 9 → m + (b.toNat % 128) * 128 ^ i < 128 ^ (i + 1)) := by
  have hp : (128 : Nat) ^ (i + 1) = 128 * 128 ^ i := by rw [Nat.pow_succ, Nat.mul_comm]
  have hk : (b.toNat % 128) * 128 ^ i ≤ 127 * 128 ^ i := Nat.mul_le_mul_right _ (by omega)
  have e9 : (128 : Nat) ^ 9 = 9223372036854775808 := by decide
  by_cases h : i = 9
  · subst h
    have hb : b ≤ 1 := by
      rcases Int.lt_or_le 1 b with h | h
      · exact absurd ⟨rfl, h⟩ h9
      · exact h
    refine ⟨?_, fun h => absurd rfl h⟩
    have : (b.toNat % 128) * 128 ^ 9 ≤ 1 * 128 ^ 9 := Nat.mul_le_mul_right _ (by omega)
    omega
  · have h8 : (128 : Nat) ^ (i + 1) ≤ 128 ^ 9 := Nat.pow_le_pow_right (by omega) (by omega)
    exact ⟨by omega, fun _ => by omega⟩
theorem rdU_err {i n : Nat} {b : Int} {r : List Int} (h : (i = 9 ∧ 1 < b) ∨ (0 < i ∧ b = 0)) : rdU i n (b :: r) = (0, r, 2) := by rw [rdU, if_pos h]
theorem rdU_last {i n : Nat} {b : Int} {r : List Int} (h0 : 0 ≤ b) (h : ¬ ((i = 9 ∧ 1 < b) ∨ (0 < i ∧ b = 0))) (hb : b < 128) : rdU i n (b :: r) = (n + (b.toNat % 128) * 128 ^ i, r, 0) := by
  rw [rdU, if_neg h, if_pos hb, show b.toNat % 128 = b.toNat by omega]
theorem rdU_more {i n : Nat} {b : Int} {r : List Int} (h : ¬ ((i = 9 ∧ 1 < b) ∨ (0 < i ∧ b = 0))) (hb : ¬ b < 128) : rdU i n (b :: r) = rdU (i + 1) (n + (b.toNat % 128) * 128 ^ i) r := by
  rw [rdU, if_neg h, if_neg hb]

theorem and1_u64 (z : Nat) (hz : z < 18446744073709551616) : bits .and .u64 (z : Int) 1 = ((z % 2 : Nat) : Int) := by
  have e : bits .and .u64 (z : Int) 1 = IntKind.u64.wrap ((BitVec.ofInt 64 (z : Int) &&& BitVec.ofInt 64 1).toNat : Int) := rfl
  have e1 : BitVec.ofInt 64 1 = 1#64 := by decide
  rw [e, e1, BitVec.toNat_and, BitVec.ofInt_natCast, BitVec.toNat_ofNat, Nat.mod_eq_of_lt (by omega)]
  show IntKind.u64.wrap ((z &&& 1 : Nat) : Int) = _
  rw [Nat.and_one_is_mod, IntKind.wrap_u64]; omega
theorem unzig_bits (z : Nat) (hz : z < 18446744073709551616) : bits .xor .i64 (wrap64 ((z : Int) / 2)) (wrap64 (-wrap64 (bits .and .u64 (z : Int) 1))) = unzig z := by
  rw [and1_u64 z hz, IntWalk.wrap64_in _ ⟨by omega, by omega⟩, IntWalk.wrap64_in ((z % 2 : Nat) : Int) ⟨by omega, by omega⟩, IntWalk.wrap64_in _ ⟨by omega, by omega⟩]
  have e : ∀ a b : Int, bits .xor .i64 a b = IntKind.i64.wrap ((BitVec.ofInt 64 a ^^^ BitVec.ofInt 64 b).toNat : Int) := fun _ _ => rfl
  rw [e, show (z : Int) / 2 = ((z / 2 : Nat) : Int) by omega]
  unfold unzig
  by_cases h : z % 2 = 1
  · rw [if_pos h, h]
    have e3 : BitVec.ofInt 64 (-((1 : Nat) : Int)) = BitVec.allOnes 64 := by decide
    rw [e3, BitVec.xor_allOnes, BitVec.toNat_not, BitVec.ofInt_natCast, BitVec.toNat_ofNat, Nat.mod_eq_of_lt (by omega), IntKind.wrap_i64]
    omega
  · rw [if_neg h, show z % 2 = 0 by omega]
    have e3 : BitVec.ofInt 64 (-((0 : Nat) : Int)) = 0#64 := by decide
    rw [e3, BitVec.xor_zero, BitVec.ofInt_natCast, BitVec.toNat_ofNat, Nat.mod_eq_of_lt (by omega), IntKind.wrap_i64]
    omega
end Go.Proofs.Ytgbamgijpgjmgaa
/- Contracts of the reader of package wire. -/
namespace Go.Proofs.Ytgbamgijpgjmgaa
open Go.RowKit

/-- the bytes lie in a block below g -/
def bnd (g : Nat) (A : Option Addr) (n : Nat) : Prop := ∀ b o, A = some ⟨b, o, none⟩ → 0 < n → b < g
/-- block g is a reader: the bytes that are left, and the error; the bytes lie below it -/
def Rd (w : World) (g : Nat) (rest : List Int) (err : Int) : Prop := ∃ A n c, w.heap[g]? = some (.cells #[.slice A n c, .int .i64 err] 82 (0, 0)) ∧ Nums .u8 w A n c rest ∧ bnd g A n
def octS (rest : List Int) (err : Int) : Int × List Int × Int := if err ≠ 0 then (0, rest, err) else match rest with | [] => (0, [], 3) | b :: r => (b, r, 0)
def RetRd (k : IntKind) (w : World) (g : Nat) (r : Int × List Int × Int) (e : Ending) (w' : World) : Prop := e = .returned (.int k r.1) ∧ Rd w' g r.2.1 r.2.2 ∧ w.grownBy w' (some g)

theorem bnd.ne {g : Nat} {A : Option Addr} {n : Nat} (h : bnd g A n) : ∀ b o, A = some ⟨b, o, none⟩ → 0 < n → b ≠ g := fun b o hA hn => by have := h b o hA hn; omega
/-- bytes that are read stay while the reader's own block is written -/
theorem nums_far {w w' : World} {A : Option Addr} {n c g : Nat} {l : List Int} (h : Nums .u8 w A n c l) (hG : w.grownBy w' (some g)) (hne : ∀ b o, A = some ⟨b, o, none⟩ → 0 < n → b ≠ g) : Nums .u8 w' A n c l :=
  ⟨h.len, h.cap, h.mx, h.wf, fun hn => by
    obtain ⟨b, o, h1, h2, h3⟩ := h.at_ hn
    refine ⟨b, o, h1, Nat.lt_of_lt_of_le h2 hG.size, fun i hi => ?_⟩
    rw [← h3 i hi]
    exact World.cell?_of_block (hG.block b h2 (fun e => hne b o h1 hn (by injection e)))⟩
theorem grownBy_set (w : World) (g i : Nat) (u : Value) : w.grownBy (w.setCell ⟨g, i, none⟩ u) (some g) :=
  ⟨rfl, rfl, rfl, by simp [World.setCell], fun k _ hne => Below.heap_setCell w _ u k (fun e => hne (by rw [e]))⟩
theorem Nums.tail {w : World} {A : Option Addr} {n c : Nat} {x : Int} {l : List Int} {b o : Nat} (h : Nums .u8 w A n c (x :: l)) (hA : A = some ⟨b, o, none⟩) (A' : Option Addr) (hA' : 1 < n → A' = some ⟨b, o + 1, none⟩) : Nums .u8 w A' (n - 1) (c - 1) l := by
  have hl := h.len
  simp only [List.length_cons] at hl
  refine ⟨by omega, by have := h.cap; omega, by have := h.mx; omega, fun y hy => h.wf y (List.mem_cons_of_mem _ hy), fun hn => ?_⟩
  obtain ⟨b', o', h1, h2, h3⟩ := h.at_ (by omega)
  rw [hA] at h1
  injection h1 with h1
  injection h1 with e1 e2
  subst e1 e2
  refine ⟨b, o + 1, hA' (by omega), h2, fun i hi => ?_⟩
  have := h3 (i + 1) (by simp; exact hi)
  simp only [List.getElem_cons_succ] at this
  rw [← this]
  congr 2
  omega

set_option maxHeartbeats 1000000 in
theorem octet_c (g : Nat) (rest : List Int) (err : Int) (w : World) (h : Rd w g rest err) :
    Calls Try.prog 108 #[.pointer (some ⟨g, 0, none⟩)] w (RetRd .u8 w g (octS rest err)) := by
  obtain ⟨A, n, c, hg, hN, hbd⟩ := h
  have HBD := Lib.hid hbd
  clear hbd
  have hc0 : w.cell? ⟨g, 0, none⟩ = some (.slice A n c) := by rw [cell_of_row _ _ _ _ _ _ hg]; rfl
  have hc1 : w.cell? ⟨g, 1, none⟩ = some (.int .i64 err) := by rw [cell_of_row _ _ _ _ _ _ hg]; rfl
  have hf0 : w.frozen? ⟨g, 0, none⟩ = false := frozen_of_row _ _ _ _ _ hg
  have hf1 : w.frozen? ⟨g, 1, none⟩ = false := frozen_of_row _ _ _ _ _ hg
  have HG := Lib.hid hg
  clear hg
  have hm := hN.n63
  by_cases he : err = 0
  · have HE := Lib.hid he
    have hd : (err != 0) = false := by simp [he]
    clear he
    cases rest with
    | nil =>
      have h0 : n = 0 := by rw [← hN.len]; rfl
      have hz : ((n : Int) == 0) = true := by simp [h0]
      clear h0
      go_enter Try.func108, Try.ntmps108
      go_wp2
      go_ret
      refine ⟨ret_int (by simp [octS, HE.out]), ?_, grownBy_set _ _ _ _⟩
      simp only [octS, HE.out]
      exact ⟨A, n, c, by rw [heap_setCell_same _ _ _ _ _ _ HG.out]; rfl, nums_far hN (grownBy_set _ _ _ _) HBD.out.ne, HBD.out⟩
    | cons b r =>
      have hlen := hN.len
      simp only [List.length_cons] at hlen
      have hz : ((n : Int) == 0) = false := by simp; omega
      have hn1 : (1 : Int) ≤ (n : Int) := by omega
      have hn0 : (0 : Int) < (n : Int) := by omega
      have hcap := hN.cap
      have hcc := hN.c63
      obtain ⟨bb, o, x, rfl, hb, hx, hwx, hcx⟩ := hN.get (i := 0) (by omega)
      simp only [List.getElem?_cons_zero, Option.some.injEq] at hx
      subst hx
      rw [Nat.add_zero] at hcx
      have hbg : bb < g := HBD.out bb o rfl (by omega)
      have hne : bb ≠ g := by omega
      clear hlen
      by_cases hc1e : c = 1
      · subst hc1e
        go_enter Try.func108, Try.ntmps108
        go_wp2
        go_ret
        refine ⟨ret_int (by simp [octS, HE.out]), ?_, grownBy_set _ _ _ _⟩
        simp only [octS, HE.out]
        exact ⟨_, _, _, by rw [heap_setCell_same _ _ _ _ _ _ HG.out, HE.out]; rfl, nums_far (show Nums .u8 w (some ⟨bb, o, none⟩) 0 0 r from by have h1 := hN.tail rfl (some ⟨bb, o, none⟩) (fun h => by omega); rwa [show n - 1 = 0 by omega] at h1) (grownBy_set _ _ _ _) (fun b' o' hA hn => by injection hA with hA; injection hA with e1 e2; rw [← e1]; exact hne), fun b' o' hA hn => by injection hA with hA; injection hA with e1 e2; rw [← e1]; exact hbg⟩
      · go_enter Try.func108, Try.ntmps108
        go_wp2
        go_ret
        refine ⟨ret_int (by simp [octS, HE.out]), ?_, grownBy_set _ _ _ _⟩
        simp only [octS, HE.out]
        exact ⟨_, _, _, by rw [heap_setCell_same _ _ _ _ _ _ HG.out, HE.out]; rfl, nums_far (hN.tail rfl (some ⟨bb, o + 1, none⟩) (fun _ => rfl)) (grownBy_set _ _ _ _) (fun b' o' hA hn => by injection hA with hA; injection hA with e1 e2; rw [← e1]; exact hne), fun b' o' hA hn => by injection hA with hA; injection hA with e1 e2; rw [← e1]; exact hbg⟩
  · have hd : (err != 0) = true := by simpa using he
    go_enter Try.func108, Try.ntmps108
    go_wp2
    go_ret
    refine ⟨ret_int (by simp [octS, he]), ?_, World.grownBy.refl _ _⟩
    simp only [octS, he, ne_eq, not_false_eq_true, if_true]
    exact ⟨A, n, c, HG.out, hN, HBD.out⟩

def rdUS (rest : List Int) (err : Int) : Int × List Int × Int := if err ≠ 0 then (0, rest, err) else (((rdU 0 0 rest).1 : Int), (rdU 0 0 rest).2.1, (rdU 0 0 rest).2.2)
theorem Rd.cells {w : World} {g : Nat} {rest : List Int} {err : Int} (h : Rd w g rest err) : w.cell? ⟨g, 1, none⟩ = some (.int .i64 err) ∧ w.frozen? ⟨g, 1, none⟩ = false ∧ ∀ e2, Rd (w.setCell ⟨g, 1, none⟩ (.int .i64 e2)) g rest e2 := by
  obtain ⟨A, n, c, hg, hN, hbd⟩ := h
  refine ⟨by rw [cell_of_row _ _ _ _ _ _ hg]; rfl, frozen_of_row _ _ _ _ _ hg, fun e2 => ⟨A, n, c, by rw [heap_setCell_same _ _ _ _ _ _ hg]; rfl, nums_far hN (grownBy_set _ _ _ _) hbd.ne, hbd⟩⟩
theorem grownBy_trans {a b c : World} {row : Option Nat} (h : a.grownBy b row) (k : b.grownBy c row) : a.grownBy c row :=
  ⟨k.os.trans h.os, k.tape.trans h.tape, k.output.trans h.output, Nat.le_trans h.size k.size, fun i hi hne => (k.block i (Nat.lt_of_lt_of_le hi h.size) hne).trans (h.block i hi hne)⟩
theorem Rd.wf {w : World} {g : Nat} {b : Int} {rest : List Int} {err : Int} (h : Rd w g (b :: rest) err) : 0 ≤ b ∧ b ≤ 255 := by
  obtain ⟨A, n, c, hg, hN, _⟩ := h
  exact wf_u8 (hN.wf b List.mem_cons_self)

set_option maxHeartbeats 2000000 in
theorem rUint_c (g : Nat) (rest : List Int) (err : Int) (w : World) (h : Rd w g rest err) :
    Calls Try.prog 93 #[.pointer (some ⟨g, 0, none⟩)] w (RetRd .u64 w g (rdUS rest err)) := by
  by_cases he : err = 0
  · subst he
    go_enter Try.func93, Try.ntmps93
    go_wp2
    go_loopw [3, 4] (fun tn ti wr => ∃ (i m : Nat) (r : List Int), ti = .int .i64 i ∧ tn = .int .u64 m ∧ i ≤ 9 ∧ Hid (m < 128 ^ i) ∧ Rd wr g r 0 ∧ w.grownBy wr (some g) ∧ Hid (rdU i m r = rdU 0 0 rest)) (fun _ ti _ => 10 - (intOf ti).toNat)
    case atStart => exact ⟨0, 0, rest, rfl, rfl, by omega, show 0 < 128 ^ 0 by decide, h, World.grownBy.refl _ _, rfl⟩
    case round =>
      obtain ⟨i, m, r, rfl, rfl, hi, hm, hR, hG, hs⟩ := hrel
      cases r with
      | nil =>
        go_wp2_with fail
        refine (octet_c _ _ _ _ hR).mono ?_
        rintro e w1 ⟨rfl, hR1, hG1⟩
        obtain ⟨hc1, hf1, hset⟩ := hR1.cells
        simp only [octS, ne_eq, not_true_eq_false, if_false] at hc1
        go_wp2
        go_ret
        refine ⟨ret_int (by simp [rdUS, ← hs.out, rdU]), ?_, grownBy_trans hG hG1⟩
        simp only [rdUS, ← hs.out, rdU]
        exact hR1
      | cons b r =>
        obtain ⟨b0, b1⟩ := hR.wf
        go_wp2_with fail
        refine (octet_c _ _ _ _ hR).mono ?_
        rintro e w1 ⟨rfl, hR1, hG1⟩
        obtain ⟨hc1, hf1, hset⟩ := hR1.cells
        simp only [octS, ne_eq, not_true_eq_false, if_false] at hc1 hset hR1 ⊢
        have HSET := Lib.hid hset
        clear hset
        have hiI : (i : Int) ≤ 9 := by omega
        by_cases hbad : (i = 9 ∧ 1 < b) ∨ (0 < i ∧ b = 0)
        · have HF := Lib.hid (rdU_err (n := m) (r := r) hbad)
          by_cases h9 : i = 9
          · have h9b : ((i : Int) == 9) = true := by simp; omega
            by_cases h1b : 1 < b
            · clear hbad h9
              go_wp2
              go_ret
              refine ⟨ret_int (by simp [rdUS, ← hs.out, HF.out]), ?_, grownBy_trans (grownBy_trans hG hG1) (grownBy_set _ _ _ _)⟩
              simp only [rdUS, ← hs.out, HF.out]
              exact HSET.out 2
            · have hb0 : (b == 0) = true := by simp; omega
              have hi0 : (0 : Int) < (i : Int) := by omega
              have d1b : decide (1 < b) = false := by simpa using h1b
              clear hbad h9
              go_wp2
              go_ret
              refine ⟨ret_int (by simp [rdUS, ← hs.out, HF.out]), ?_, grownBy_trans (grownBy_trans hG hG1) (grownBy_set _ _ _ _)⟩
              simp only [rdUS, ← hs.out, HF.out]
              exact HSET.out 2
          · have h9b : ((i : Int) == 9) = false := by simp; omega
            have hb0 : (b == 0) = true := by simp; omega
            have hi0 : (0 : Int) < (i : Int) := by omega
            clear hbad h9
            go_wp2
            go_ret
            refine ⟨ret_int (by simp [rdUS, ← hs.out, HF.out]), ?_, grownBy_trans (grownBy_trans hG hG1) (grownBy_set _ _ _ _)⟩
            simp only [rdUS, ← hs.out, HF.out]
            exact HSET.out 2
        · have hsl := shift_lt (i := i) b0 hm.out hi (fun h => hbad (.inl h))
          have HO := Lib.hid (or_shift b m i b0 b1 hm.out hsl.1)
          have HSL := Lib.hid hsl
          clear hsl
          have hz0 : (0 : Int) < (i : Int) → (b == 0) = false := fun h => by simp; omega
          by_cases h128 : b < 128
          · have HF := Lib.hid (rdU_last (n := m) (r := r) b0 hbad h128)
            by_cases h9 : i = 9
            · have h9b : ((i : Int) == 9) = true := by simp; omega
              have h1b : ¬ 1 < b := fun h => hbad (.inl ⟨h9, h⟩)
              have d1b : decide (1 < b) = false := by simpa using h1b
              have hi0 : (0 : Int) < (i : Int) := by omega
              have hb0 := hz0 hi0
              clear hbad h9 hz0
              go_wp2
              go_ret
              refine ⟨ret_int (by simp only [rdUS, ← hs.out, HF.out]; exact HO.out), ?_, grownBy_trans hG hG1⟩
              simp only [rdUS, ← hs.out, HF.out]
              exact hR1
            · have h9b : ((i : Int) == 9) = false := by simp; omega
              by_cases hi0 : (0 : Int) < (i : Int)
              · have hb0 := hz0 hi0
                clear hbad h9 hz0
                go_wp2
                go_ret
                refine ⟨ret_int (by simp only [rdUS, ← hs.out, HF.out]; exact HO.out), ?_, grownBy_trans hG hG1⟩
                simp only [rdUS, ← hs.out, HF.out]
                exact hR1
              · have di0 : decide ((0 : Int) < (i : Int)) = false := by simpa using hi0
                clear hbad h9 hz0
                go_wp2
                go_ret
                refine ⟨ret_int (by simp only [rdUS, ← hs.out, HF.out]; exact HO.out), ?_, grownBy_trans hG hG1⟩
                simp only [rdUS, ← hs.out, HF.out]
                exact hR1
          · have HF := Lib.hid (rdU_more (n := m) (r := r) hbad h128)
            have h9 : i ≠ 9 := fun h => hbad (.inl ⟨h, by omega⟩)
            have h9b : ((i : Int) == 9) = false := by simp; omega
            have hi8 : i < 9 := by omega
            have H9 := Lib.hid h9
            clear hbad hz0 h9
            have hb0 : (b == 0) = false := by simp; omega
            by_cases hi0 : (0 : Int) < (i : Int)
            · go_wp2
              go_roundw
              case rel => exact ⟨i + 1, _, r, by go_num, congrArg (Value.int .u64) HO.out, by omega, HSL.out.2 H9.out, hR1, grownBy_trans hG hG1, show _ = _ by rw [← hs.out, HF.out]⟩
              case measure => simp [intOf]; omega
            · have di0 : decide ((0 : Int) < (i : Int)) = false := by simpa using hi0
              go_wp2
              go_roundw
              case rel => exact ⟨i + 1, _, r, by go_num, congrArg (Value.int .u64) HO.out, by omega, HSL.out.2 H9.out, hR1, grownBy_trans hG hG1, show _ = _ by rw [← hs.out, HF.out]⟩
              case measure => simp [intOf]; omega
  · have hd : (err != 0) = true := by simpa using he
    go_enter Try.func93, Try.ntmps93
    go_wp2
    refine wp_loop_rounds 1 ?_; rw [rounds_succ]
    go_wp2_with fail
    refine (octet_c _ _ _ _ h).mono ?_
    rintro e w1 ⟨rfl, hR1, hG1⟩
    have e1 : octS rest err = (0, rest, err) := by simp [octS, he]
    rw [e1] at hR1
    obtain ⟨hc1, hf1, hset⟩ := hR1.cells
    clear hset e1
    go_wp2
    go_ret
    refine ⟨ret_int (by simp [rdUS, he]), ?_, hG1⟩
    simp only [rdUS, he, ne_eq, not_false_eq_true, if_true]
    exact hR1
end Go.Proofs.Ytgbamgijpgjmgaa
/- Int and End of the reader; Read. -/
namespace Go.Proofs.Ytgbamgijpgjmgaa
open Go.RowKit

set_option maxHeartbeats 1000000 in
theorem unzigzag_c (z : Nat) (w : World) (hz : z < 18446744073709551616) :
    Calls Try.prog 94 #[.int .u64 z] w fun e w' => e = .returned (.int .i64 (unzig z)) ∧ w = w' := by
  have HZ := Lib.hid (unzig_bits z hz)
  clear hz
  go_enter Try.func94, Try.ntmps94
  go_wp2
  go_ret
  exact ⟨ret_int HZ.out, rfl⟩

def rdIS (rest : List Int) (err : Int) : Int × List Int × Int := (unzig (rdUS rest err).1.toNat, (rdUS rest err).2.1, (rdUS rest err).2.2)
theorem Rd.bytes {w : World} {g : Nat} {rest : List Int} {err : Int} (h : Rd w g rest err) : ∀ x ∈ rest, 0 ≤ x ∧ x ≤ 255 := by
  obtain ⟨A, n, c, hg, hN, _⟩ := h
  exact fun x hx => wf_u8 (hN.wf x hx)
theorem rdU_fits {l : List Int} (hb : ∀ x ∈ l, 0 ≤ x ∧ x ≤ 255) : ∀ (i n : Nat), i ≤ 9 → n < 128 ^ i → (rdU i n l).1 < 18446744073709551616 := by
  induction l with
  | nil => intro i n _ _; simp [rdU]
  | cons b l ih =>
    intro i n hi hn
    have hb0 := hb b List.mem_cons_self
    by_cases hbad : (i = 9 ∧ 1 < b) ∨ (0 < i ∧ b = 0)
    · rw [rdU_err hbad]; simp
    · have hsl := shift_lt (i := i) hb0.1 hn hi (fun h => hbad (.inl h))
      by_cases h128 : b < 128
      · rw [rdU_last hb0.1 hbad h128]; exact hsl.1
      · rw [rdU_more hbad h128]
        have h9 : i ≠ 9 := fun h => hbad (.inl ⟨h, by omega⟩)
        exact ih (fun x hx => hb x (List.mem_cons_of_mem _ hx)) (i + 1) _ (by omega) (hsl.2 h9)
theorem rdUS_nat {rest : List Int} {err : Int} (hb : ∀ x ∈ rest, 0 ≤ x ∧ x ≤ 255) : ∃ z : Nat, (rdUS rest err).1 = (z : Int) ∧ z < 18446744073709551616 := by
  unfold rdUS
  split
  · exact ⟨0, rfl, by omega⟩
  · exact ⟨_, rfl, rdU_fits hb 0 0 (by omega) (by decide)⟩

set_option maxHeartbeats 1000000 in
theorem rInt_c (g : Nat) (rest : List Int) (err : Int) (w : World) (h : Rd w g rest err) :
    Calls Try.prog 71 #[.pointer (some ⟨g, 0, none⟩)] w (RetRd .i64 w g (rdIS rest err)) := by
  obtain ⟨z, hz, hzl⟩ := rdUS_nat (err := err) h.bytes
  have HZ := Lib.hid hz
  have HL := Lib.hid hzl
  clear hz hzl
  go_enter Try.func71, Try.ntmps71
  go_wp2_with fail
  refine (rUint_c _ _ _ _ h).mono ?_
  rintro e w1 ⟨rfl, hR1, hG1⟩
  rw [HZ.out]
  go_wp2_with (go_at_call 94; refine (unzigzag_c _ _ HL.out).mono ?_; rintro e w' ⟨rfl, rfl⟩)
  go_ret
  exact ⟨ret_int (by simp [rdIS, HZ.out]), hR1, hG1⟩

def endS (rest : List Int) (err : Int) : Int := if err ≠ 0 then err else if rest = [] then 0 else 2
set_option maxHeartbeats 1000000 in
theorem rEnd_c (g : Nat) (rest : List Int) (err : Int) (w : World) (h : Rd w g rest err) :
    Calls Try.prog 47 #[.pointer (some ⟨g, 0, none⟩)] w fun e w' => e = .returned (.int .i64 (endS rest err)) ∧ w = w' := by
  obtain ⟨A, n, c, hg, hN, _⟩ := h
  have hc0 : w.cell? ⟨g, 0, none⟩ = some (.slice A n c) := by rw [cell_of_row _ _ _ _ _ _ hg]; rfl
  have hc1 : w.cell? ⟨g, 1, none⟩ = some (.int .i64 err) := by rw [cell_of_row _ _ _ _ _ _ hg]; rfl
  clear hg
  have hlen := hN.len
  by_cases he : err = 0
  · have hd : (err != 0) = false := by simp [he]
    by_cases hn : (0 : Int) < (n : Int)
    · have HF := Lib.hid (show endS rest err = 2 by
        have : rest ≠ [] := fun h => by rw [h] at hlen; simp at hlen; omega
        simp [endS, he, this])
      clear he hlen
      go_enter Try.func47, Try.ntmps47
      go_wp2
      go_ret
      exact ⟨ret_int HF.out.symm, rfl⟩
    · have HF := Lib.hid (show endS rest err = 0 by
        have : rest = [] := List.eq_nil_of_length_eq_zero (by omega)
        simp [endS, he, this])
      clear he hlen
      go_enter Try.func47, Try.ntmps47
      go_wp2
      go_ret
      exact ⟨ret_int HF.out.symm, rfl⟩
  · have hd : (err != 0) = true := by simpa using he
    have HF := Lib.hid (show endS rest err = err by simp [endS, he])
    clear he hlen
    go_enter Try.func47, Try.ntmps47
    go_wp2
    go_ret
    exact ⟨ret_int HF.out.symm, rfl⟩

def RetReader (w : World) (l : List Int) (e : Ending) (w' : World) : Prop := ∃ g, e = .returned (.pointer (some ⟨g, 0, none⟩)) ∧ Rd w' g l 0 ∧ w.heap.size ≤ g ∧ E w w'
set_option maxHeartbeats 1000000 in
theorem read_c (A : Option Addr) (n c : Nat) (l : List Int) (w : World) (h : Nums .u8 w A n c l) (hn : n ≤ 1099511627776) :
    Calls Try.prog 43 #[.slice A n c] w (RetReader w l) := by
  have HN := Lib.hid hn
  clear hn
  go_enter Try.func43, Try.ntmps43
  go_wp2_with (go_at_call 69; refine (cloneB_c _ _ _ _ _ h HN.out).mono ?_; rintro e w1 ⟨A1, n1, c1, rfl, hO, hE⟩)
  go_ret
  refine ⟨w1.heap.size, rfl, ⟨A1, n1, c1, heap_alloc_new w1 _, hO.reads.e ((E.refl w1).alloc _), fun b o hA hn => ?_⟩, hE.le, hE.alloc _⟩
  rcases hO.form with ⟨rfl, _⟩ | ⟨g, rfl, _, hlt, _⟩
  · cases hA
  · injection hA with hA; injection hA with e1 e2; omega
end Go.Proofs.Ytgbamgijpgjmgaa
/- Ints of the writer and the reader. -/
namespace Go.Proofs.Ytgbamgijpgjmgaa
open Go.RowKit

def intsB (l : List Int) : List Int := l.flatMap fun v => uv (zig v)
def encI (l : List Int) : List Int := uv l.length ++ intsB l
theorem intsB_len (l : List Int) (h : ∀ x ∈ l, (Lit.int .i64 x).wf = true) : (intsB l).length ≤ 10 * l.length := by
  induction l with
  | nil => simp [intsB]
  | cons a l ih =>
    have h1 := ih (fun x hx => h x (List.mem_cons_of_mem _ hx))
    have h2 := wf_i64 (h a List.mem_cons_self)
    have := uv_len10 (zig_lt a h2.1 h2.2)
    simp only [intsB, List.flatMap_cons, List.length_append, List.length_cons] at h1 ⊢
    omega

set_option maxHeartbeats 1000000 in
theorem wInts_c (g base : Nat) (A : Option Addr) (n c : Nat) (l l0 : List Int) (w : World) (hW : Wr w base g l0) (hN : ∀ w', Below base w w' → Nums .i64 w' A n c l) (hn : n ≤ 1000000) (hl0 : l0.length ≤ 1000000) (hbw : base ≤ w.heap.size) :
    Calls Try.prog 42 #[.pointer (some ⟨g, 0, none⟩), .slice A n c] w (RetW w base g (l0 ++ encI l)) := by
  have hlen : l.length = n := (hN w (Below.refl _ _)).len
  have HL := Lib.hid hlen
  clear hlen
  go_enter Try.func42, Try.ntmps42
  go_wp2_with fail
  refine (wUint_c n _ base _ _ hW (by omega) (by omega) hbw).mono ?_
  rintro e w1 ⟨rfl, hW1, hK1⟩
  go_wp2_with fail
  go_loopw [13] (fun ti wr => ∃ (k : Nat) (l' : List Int), k ≤ n ∧ ti = .int .i64 k ∧ Wr wr base g l' ∧ Keep base g w wr ∧ l'.length ≤ 1000010 + 10 * k ∧ Hid (l' ++ intsB (l.drop k) = l0 ++ encI l)) (fun ti _ => n - (intOf ti).toNat)
  case atStart => exact ⟨0, _, Nat.zero_le _, rfl, hW1, hK1, by have := uv_len10 (n := n) (by omega); simp only [List.length_append]; omega, show _ = _ by rw [encI, HL.out, List.append_assoc]; rfl⟩
  case round =>
    clear hW1 hK1
    obtain ⟨k, l', hk, rfl, hW', hK', hl', hs⟩ := hrel
    have hNw := hN wr hK'.1
    have hbr : base ≤ wr.heap.size := Nat.le_trans hbw hK'.1.size
    by_cases hkn : (k : Int) < (n : Int)
    · obtain ⟨b, o, x, rfl, hbl, hx, hwx, hcx⟩ := hNw.get (i := k) (by omega)
      obtain ⟨x1, x2⟩ := wf_i64 hwx
      have HD := Lib.hid (drop_at hx)
      have hl2 := len_app_le hl' x1 x2
      clear hNw hx
      go_wp2_with (go_at_call 68; refine (wInt_c x _ base _ _ hW' x1 x2 (by omega) hbr).mono ?_; rintro e w2 ⟨rfl, hW2, hK2⟩)
      go_roundw
      case rel => exact ⟨k + 1, _, by omega, by go_num, hW2, hK'.trans hK2, by omega, show _ = _ by rw [← hs.out, HD.out]; simp [intsB]⟩
      case measure => simp [intOf]; omega
    · have HE := Lib.hid (show l' = l0 ++ encI l by rw [← hs.out, List.drop_eq_nil_of_le (by rw [HL.out]; omega)]; simp [intsB])
      clear hNw
      go_wp2_with fail
      go_end0
      exact ⟨rfl, by rw [← HE.out]; exact hW', hK'⟩

/-- make([]T, 0, n): an empty row of the call's own, in the new block -/
theorem wpList_mk0 {P : Program} {S T : TypeId} {k : IntKind} {by8 : Nat} (it : IntT P S T k by8) (w : World) {ops : Array Oper} {rest : List Oper} {o : Oper} {a : Act} {Q : Exit → Act → World → Prop} (hgd : o.guard = none) (x y : Operand)
    (ho : o.op = Op.makeSlice S x y) (kl kc : IntKind) (L C : Int) (n : Nat) (hl : a.eval x = .int kl L) (hc : a.eval y = .int kc C) (hL : L = 0) (hC : C = (n : Int)) (hn : n ≤ 17592186044416)
    (h : ∀ w', Own k T w' w.heap.size (some ⟨w.heap.size, 0, none⟩) 0 n [] → E w w' → w'.heap.size = w.heap.size + 1 → wpList P ops Q rest (a.put o.dst (.slice (some ⟨w.heap.size, 0, none⟩) 0 n)) w') :
    wpList P ops Q (o :: rest) a w := by
  obtain ⟨i, hi, hz0, hz1, hz2⟩ := info_parts it.info
  have hsm := it.small
  have hb : i.bytes * n ≤ 281474976710656 := by
    rw [hz2]
    have : by8 * n ≤ 8 * n := Nat.mul_le_mul_right _ hsm
    omega
  refine wpList_plain hgd fun K hK' => ?_
  have hbI : (i.bytes : Int) * (n : Int) ≤ 281474976710656 := by
    have h : ((i.bytes * n : Nat) : Int) ≤ 281474976710656 := by omega
    rwa [Int.natCast_mul] at h
  have hr := run_make (P := P) w S T i (.int k 0) it.und hi hz0 kl kc 0 n (by omega) (by omega) hbI (by omega)
  simp only [Int.toNat_natCast, Int.toNat_zero] at hr
  subst hL
  subst hC
  unfold Oper.wp
  simp [execOp, ho, hl, hc, hr, Result.andThen]
  refine hK' _ _ (h _ ⟨by simp, ⟨by simp, .inr ⟨w.heap.size, n, _, rfl, Nat.le_refl _, heap_alloc_new w _, Nat.zero_le _, by unfold maxLen; omega, by rw [size_madeCells, hz1], ?_⟩⟩, ?_⟩ ((E.refl w).alloc _) (by simp))
  · simp
  · simp

theorem intsB_ge (l : List Int) : l.length ≤ (intsB l).length := by
  induction l with
  | nil => simp [intsB]
  | cons a l ih =>
    have : 0 < (uv (zig a)).length := by
      by_cases h : zig a < 128
      · rw [uv_small h]; simp
      · rw [uv_big h]; simp
    simp only [intsB, List.flatMap_cons, List.length_append, List.length_cons] at ih ⊢
    omega
theorem rdUS_uv (v : Nat) (r : List Int) (hv : v < 18446744073709551616) : rdUS (uv v ++ r) 0 = ((v : Int), r, 0) := by
  have := rdU_uv v 0 0 r (by omega) (fun h => absurd h (by omega)) (by simpa using hv)
  simp [rdUS, this]
theorem rdIS_zig (x : Int) (r : List Int) (h1 : -9223372036854775808 ≤ x) (h2 : x ≤ 9223372036854775807) : rdIS (uv (zig x) ++ r) 0 = (x, r, 0) := by
  simp [rdIS, rdUS_uv _ r (zig_lt x h1 h2), unzig_zig]
def RetInts (w : World) (g : Nat) (l rest : List Int) (e : Ending) (w' : World) : Prop := ∃ A n c, e = .returned (.slice A n c) ∧ Own .i64 3 w' w.heap.size A n c l ∧ Rd w' g rest 0 ∧ w.grownBy w' (some g)

theorem Own.sink {k : IntKind} {T : TypeId} {w : World} {b b' : Nat} {A : Option Addr} {n c : Nat} {l : List Int} (h : Own k T w b A n c l) (hb : b' ≤ b) : Own k T w b' A n c l := by
  obtain ⟨h1, ⟨a1, a2⟩, h3⟩ := h
  refine ⟨h1, ⟨a1, ?_⟩, h3⟩
  rcases a2 with a2 | ⟨g, cap, cur, hv, hb', r⟩
  · exact .inl a2
  · exact .inr ⟨g, cap, cur, hv, by omega, r⟩
theorem Rd.below {w w' : World} {base g : Nat} {rest : List Int} {err : Int} (h : Rd w g rest err) (hB : Below base w w') (hg : g < base) : Rd w' g rest err := by
  obtain ⟨A, n, c, h1, hN, hb⟩ := h
  refine ⟨A, n, c, by rw [hB.block g hg]; exact h1, ⟨hN.len, hN.cap, hN.mx, hN.wf, fun hn => ?_⟩, hb⟩
  obtain ⟨b, o, e, h2, h3⟩ := hN.at_ hn
  have hbg := hb b o e hn
  exact ⟨b, o, e, Nat.lt_of_lt_of_le h2 hB.size, fun i hi => (hB.cell (p := ⟨b, o + i, none⟩) (by show b < base; omega)).trans (h3 i hi)⟩
theorem Rd.lt {w : World} {g : Nat} {rest : List Int} {err : Int} (h : Rd w g rest err) : g < w.heap.size := by
  obtain ⟨A, n, c, h1, _⟩ := h
  exact blk_lt h1
theorem grown_below {w w2 w3 : World} {r : Option Nat} (h : w.grownBy w2 r) (hB : Below w.heap.size w2 w3) : w.grownBy w3 r :=
  ⟨hB.os.trans h.os, hB.tape.trans h.tape, hB.output.trans h.output, Nat.le_trans h.size hB.size, fun i hi hne => (hB.block i hi).trans (h.block i hi hne)⟩
theorem Own.rd {w w' : World} {base g : Nat} {A : Option Addr} {n c : Nat} {l rest : List Int} {err : Int} (h : Own .i64 3 w base A n c l) (hR : Rd w g rest err) (hG : w.grownBy w' (some g)) : Own .i64 3 w' base A n c l := by
  obtain ⟨A', n', c', h1, _⟩ := hR
  exact ⟨h.1, World.ownsRow.kept h.2.1 hG (.inr (fun e => h.apart h1 (by decide) (by first | exact e | exact e.symm))), h.2.2⟩

set_option maxHeartbeats 1000000 in
theorem list_c (g : Nat) (l rest : List Int) (w : World) (h : Rd w g (encI l ++ rest) 0) (hl : ∀ x ∈ l, (Lit.int .i64 x).wf = true) (hn : l.length ≤ 1000000) :
    Calls Try.prog 70 #[.pointer (some ⟨g, 0, none⟩), .func (.func 71) #[.pointer (some ⟨g, 0, none⟩)] #[]] w (RetInts w g l rest) := by
  have hcall := Try.call71
  have HL := Lib.hid hl
  clear hl
  obtain ⟨m, hm⟩ : ∃ m, l.length = m := ⟨_, rfl⟩
  rw [hm] at hn
  have HU := Lib.hid (show rdUS (encI l ++ rest) 0 = ((m : Int), intsB l ++ rest, 0) by rw [encI, hm, List.append_assoc]; exact rdUS_uv _ _ (by omega))
  have HM := Lib.hid hm
  clear hm
  go_enter Try.func70, Try.ntmps70
  go_wp2_with fail
  refine (rUint_c _ _ _ _ h).mono ?_
  rintro e w1 ⟨rfl, hR1, hG1⟩
  rw [HU.out] at hR1 ⊢
  obtain ⟨A1, n1, c1, hg1, hN1, hbd1⟩ := hR1
  have hc0 : w1.cell? ⟨g, 0, none⟩ = some (.slice A1 n1 c1) := by rw [cell_of_row _ _ _ _ _ _ hg1]; rfl
  have hc1 : w1.cell? ⟨g, 1, none⟩ = some (.int .i64 0) := by rw [cell_of_row _ _ _ _ _ _ hg1]; rfl
  have hmn : (m : Int) ≤ (n1 : Int) := by have := hN1.len; have := intsB_ge l; have := HM.out; simp only [List.length_append] at *; omega
  have hn63 := hN1.n63
  have HR1 : Rd w1 g (intsB l ++ rest) 0 := ⟨A1, n1, c1, hg1, hN1, hbd1⟩
  clear hg1 hN1 hbd1
  go_wp2_with (at_make; refine wpList_mk0 intT3 _ rfl _ _ rfl _ _ _ _ m rfl rfl rfl rfl (by omega) ?_; intro w2 hO2 hE2 hz2)
  have hgw := h.lt
  have hO2' := hO2.sink (b' := w.heap.size) hG1.size
  have hR2 : Rd w2 g (intsB l ++ rest) 0 := HR1.below hE2 HR1.lt
  have hG2 : w.grownBy w2 (some g) := grown_below hG1 (Below.mono hE2 hG1.size)
  clear hc0 hc1 HR1 hG1 hO2 hE2 hz2 h
  go_loopw [6, 30] (fun t6 ti wr => ∃ (k c : Nat) (A : Option Addr), k ≤ m ∧ ti = .int .i64 k ∧ t6 = .slice A k c ∧ Own .i64 3 wr w.heap.size A k c (l.take k) ∧ Rd wr g (intsB (l.drop k) ++ rest) 0 ∧ w.grownBy wr (some g)) (fun _ ti _ => m - (intOf ti).toNat)
  case atStart => exact ⟨0, m, _, Nat.zero_le _, rfl, rfl, hO2', hR2, hG2⟩
  case round =>
    clear hO2' hR2 hG2
    obtain ⟨k, c, A, hk, rfl, rfl, hO, hR, hG⟩ := hrel
    have hbase : w.heap.size ≤ wr.heap.size := hG.size
    by_cases hkm : (k : Int) < (m : Int)
    · obtain ⟨x, hx⟩ : ∃ x, l[k]? = some x := ⟨l[k]'(by rw [HM.out]; omega), List.getElem?_eq_getElem (by rw [HM.out]; omega)⟩
      have hwx := HL.out x (List.mem_of_getElem? hx)
      obtain ⟨x1, x2⟩ := wf_i64 hwx
      have HD := Lib.hid (drop_at hx)
      have HT := Lib.hid (show l.take (k + 1) = l.take k ++ [x] by rw [List.take_add_one, hx]; rfl)
      have HI := Lib.hid (show rdIS (intsB (l.drop k) ++ rest) 0 = (x, intsB (l.drop (k + 1)) ++ rest, 0) by
        rw [HD.out]; simp only [intsB, List.flatMap_cons, List.append_assoc]; exact rdIS_zig x _ x1 x2)
      clear hx
      go_wp2_with fail
      refine (rInt_c _ _ _ _ hR).mono ?_
      rintro e w3 ⟨rfl, hR3, hG3⟩
      rw [HI.out] at hR3 ⊢
      have hO3 := hO.rd hR hG3
      have hG03 := grownBy_trans hG hG3
      have hb3 : w.heap.size ≤ w3.heap.size := hG03.size
      clear hO hR hG hG3
      go_wp2_with (at_builtin; refine wpList_app1n intT3 _ rfl _ _ rfl _ _ _ _ _ rfl hO3 _ rfl hwx (by omega) hb3 ?_; intro g' c2 w4 hO4 hG4 hB4 hor; have hR4 := hR3.below hB4 hgw; have hc4 := hR4.cells.1)
      go_roundw
      case rel => exact ⟨k + 1, c2, _, by omega, by go_num, rfl, by rw [HT.out]; exact hO4, hR4, grown_below hG03 hB4⟩
      case measure => simp [intOf]; omega
    · have hkm' : m = k := by omega
      have HE := Lib.hid hkm'
      clear hkm'
      go_wp2_with fail
      go_ret
      have e1 : l.take k = l := List.take_of_length_le (by rw [HM.out, HE.out]; omega)
      have e2 : l.drop k = [] := List.drop_eq_nil_of_le (by rw [HM.out, HE.out]; omega)
      rw [e1] at hO
      rw [e2] at hR
      exact ⟨A, k, c, rfl, hO, hR, hG⟩

set_option maxHeartbeats 1000000 in
theorem rInts_c (g : Nat) (l rest : List Int) (w : World) (h : Rd w g (encI l ++ rest) 0) (hl : ∀ x ∈ l, (Lit.int .i64 x).wf = true) (hn : l.length ≤ 1000000) :
    Calls Try.prog 45 #[.pointer (some ⟨g, 0, none⟩)] w (RetInts w g l rest) := by
  go_enter Try.func45, Try.ntmps45
  go_wp2_with fail
  refine (list_c _ l rest _ h hl hn).mono ?_
  rintro e w1 ⟨A1, n1, c1, rfl, hO1, hR1, hG1⟩
  go_wp2_with fail
  go_ret
  exact ⟨A1, n1, c1, rfl, hO1, hR1, hG1⟩
end Go.Proofs.Ytgbamgijpgjmgaa
/- hash.mix and the iterator of the words of a byte slice. -/
namespace Go.Proofs.Ytgbamgijpgjmgaa
open Go.RowKit Go.Shelf
attribute [local go_sem] Oper.semAt_some

def mulF (a b : Int) : Int := IntKind.u64.wrap (bits .xor .u64 a b * 11400714819323198485)
def mixV (a b : Int) : Int := bits .xor .u64 (mulF a b) (mulF a b / 4294967296)
theorem wrapU_range (x : Int) : 0 ≤ IntKind.u64.wrap x ∧ IntKind.u64.wrap x ≤ 18446744073709551615 := by rw [IntKind.wrap_u64]; omega
theorem mulF_range (a b : Int) : 0 ≤ mulF a b ∧ mulF a b ≤ 18446744073709551615 := wrapU_range _
theorem bits_range (op : BinOp) (a b : Int) (h : op = .xor ∨ op = .or) : 0 ≤ bits op .u64 a b ∧ bits op .u64 a b ≤ 18446744073709551615 := by
  rcases h with rfl | rfl
  · exact wrapU_range _
  · exact wrapU_range _
theorem mixV_range (a b : Int) : 0 ≤ mixV a b ∧ mixV a b ≤ 18446744073709551615 := bits_range .xor _ _ (.inl rfl)

set_option maxHeartbeats 400000 in
theorem mix_c (a b : Int) (w : World) : Calls Try.prog 73 #[.int .u64 a, .int .u64 b] w fun e w' => e = .returned (.int .u64 (mixV a b)) ∧ w = w' := by
  obtain ⟨m, hm⟩ : ∃ m, IntKind.u64.wrap (bits .xor .u64 a b * 11400714819323198485) = m := ⟨_, rfl⟩
  have hr := wrapU_range (bits .xor .u64 a b * 11400714819323198485)
  rw [hm] at hr
  obtain ⟨m0, m1⟩ := hr
  have HM := Lib.hid (show mixV a b = bits .xor .u64 m (m / 4294967296) by rw [mixV, mulF, hm])
  generalize mixV a b = v at *
  go_enter Try.func73, Try.ntmps73
  go_wp2
  go_ret
  exact ⟨ret_int HM.out.symm, rfl⟩

/-- a word out of bytes, the first the lowest -/
def wordF (acc : Int) (i : Nat) : List Int → Int
  | [] => acc
  | c :: r => wordF (bits .or .u64 acc (IntKind.u64.wrap (c * 2 ^ (8 * i)))) (i + 1) r
def wordAt (bs : List Int) (k : Nat) : Int := wordF 0 0 ((bs.drop (8 * k)).take 8)
def nWords (n : Nat) : Nat := (n + 7) / 8
def wordsL (bs : List Int) : List Int := (List.range (nWords bs.length)).map (wordAt bs)
def uptoW (bs : List Int) (k : Nat) : List Int := (List.range k).map (wordAt bs)
theorem uptoW_succ (bs : List Int) (k : Nat) : uptoW bs (k + 1) = uptoW bs k ++ [wordAt bs k] := by simp [uptoW, List.range_succ]
theorem uptoW_len (bs : List Int) (k : Nat) : (uptoW bs k).length = k := by simp [uptoW]

/-- two blocks stay as they are -/
def K2 (b c : Nat) (W W' : World) : Prop := W'.heap[b]? = W.heap[b]? ∧ W'.heap[c]? = W.heap[c]?
theorem K2.refl (b c : Nat) (W : World) : K2 b c W W := ⟨rfl, rfl⟩
theorem K2.trans {b c : Nat} {A B C : World} (h : K2 b c A B) (k : K2 b c B C) : K2 b c A C := ⟨k.1.trans h.1, k.2.trans h.2⟩
theorem K2.cell1 {b c : Nat} {A B : World} (h : K2 b c A B) (o : Nat) : B.cell? ⟨b, o, none⟩ = A.cell? ⟨b, o, none⟩ := World.cell?_of_block h.1
theorem K2.cell2 {b c : Nat} {A B : World} (h : K2 b c A B) (o : Nat) : B.cell? ⟨c, o, none⟩ = A.cell? ⟨c, o, none⟩ := World.cell?_of_block h.2

set_option maxRecDepth 100000 in
set_option maxHeartbeats 2000000 in
/-- the closure: for every loop body that keeps what lay below n0 -/
theorem words1_in (F : Fence) (n : Nat) (h7 : F.fn 95) (hro : F.round = none) (hn : 1 ≤ n) (l Bs b off len cap : Nat) (bs : List Int) (hreach : len ≤ 1099511627776) (hlc : len ≤ cap) (hl : bs.length = len) (hwf : ∀ x ∈ bs, 0 ≤ x ∧ x ≤ 255) (J Jx : List Int → World → Prop)
    (hY : ∀ pre x W, J pre W → pre.length < nWords len → YieldAt F (n - 1) Try.prog l #[.int .u64 x] W fun e W' =>
      (e = .returned (.bool true) ∧ J (pre ++ [x]) W' ∧ K2 b Bs W W') ∨ (e = .returned (.bool false) ∧ Jx (pre ++ [x]) W'))
    (W : World) (hBs : W.cell? ⟨Bs, 0, none⟩ = some (.slice (some ⟨b, off, none⟩) len cap)) (hc : ∀ j x, bs[j]? = some x → W.cell? ⟨b, off + j, none⟩ = some (.int .u8 x)) (h0 : J [] W) :
    CallsIn F n Try.prog 95 #[.func (.yield l) #[] #[], .pointer (some ⟨Bs, 0, none⟩)] W fun e W' => (∃ v, e = .returned v) ∧
      ((∃ ys, ys = uptoW bs (nWords len) ∧ J ys W') ∨ (∃ pre, (∃ k, k ≤ nWords len ∧ pre = uptoW bs k) ∧ Jx pre W')) := by
  refine callsIn_of_wp Try.func95 rfl h7 ?_ hro
  simp only [Try.ntmps95, List.size_toArray, List.length_cons, List.length_nil, Nat.reduceAdd, Nat.reduceSub, Array.replicate_succ, Array.replicate_zero, List.push_toArray, List.append_toArray, List.nil_append, List.cons_append]
  gi_wp2
  have HC := Lib.hid hc
  have HW := Lib.hid hwf
  have HLb := Lib.hid hl
  clear hc hwf
  gi_loopw [3] (fun i wr => ∃ k p : Nat, k ≤ nWords len ∧ Hid (p = 8 * k) ∧ i = .int .i64 p ∧ J (uptoW bs k) wr ∧ K2 b Bs W wr)
    (fun i _ => len + 8 - (intOf i).toNat)
  case atStart => exact ⟨0, 0, Nat.zero_le _, rfl, rfl, h0, K2.refl _ _ _⟩
  case round =>
    obtain ⟨k, p, hk, HP, rfl, hJs, hnx⟩ := hrel
    have hBs' : wr.cell? ⟨Bs, 0, none⟩ = some (.slice (some ⟨b, off, none⟩) len cap) := (hnx.cell2 0).trans hBs
    have hp8 : p = 8 * k := HP.out
    have hpk : p ≤ len + 8 := by rw [hp8]; unfold nWords at hk; omega
    by_cases hlt : p < len
    · have hltI : (p : Int) < (len : Int) := by omega
      have hkn : k < nWords len := by unfold nWords; omega
      clear hp8
      by_cases h8 : p + 8 ≤ len
      · have h8I : (p : Int) + 8 ≤ (len : Int) := by omega
        gi_wp2
        gi_loopw [4, 22] (fun tv ti w2 => ∃ (j : Nat) (acc : Int), j ≤ 8 ∧ ti = .int .i64 j ∧ tv = .int .u64 acc ∧ 0 ≤ acc ∧ acc ≤ 18446744073709551615 ∧ Hid (wordF acc j (((bs.drop p).take 8).drop j) = wordAt bs k) ∧ w2 = wr) (fun _ ti _ => 8 - (intOf ti).toNat)
        case atStart => exact ⟨0, 0, Nat.zero_le _, rfl, rfl, by omega, by omega, show _ = _ by rw [HP.out]; rfl, rfl⟩
        case round =>
          obtain ⟨wq, hwq⟩ : ∃ wq : World, wq = wr := ⟨_, rfl⟩
          obtain ⟨j, acc, hj, rfl, rfl, a0, a1, hW, hw2⟩ := hrel
          subst hw2
          by_cases hjM : j < 8
          · obtain ⟨x, hx⟩ : ∃ x, bs[p + j]? = some x := ⟨bs[p + j]'(by omega), List.getElem?_eq_getElem (by omega)⟩
            obtain ⟨x0, x1⟩ := HW.out x (List.mem_of_getElem? hx)
            have hcx : wr.cell? ⟨b, off + p + j, none⟩ = some (.int .u8 x) := by
              rw [Nat.add_assoc]; exact (hnx.cell1 _).trans (HC.out _ x hx)
            have HD := Lib.hid (show ((bs.drop p).take 8).drop j = x :: ((bs.drop p).take 8).drop (j + 1) by
              refine drop_at ?_
              rw [List.getElem?_take_of_lt (by omega), List.getElem?_drop]; exact hx)
            obtain ⟨acc', hacc⟩ : ∃ a, bits .or .u64 acc (IntKind.u64.wrap (x * 2 ^ (8 * j))) = a := ⟨_, rfl⟩
            have hbr := bits_range .or acc (IntKind.u64.wrap (x * 2 ^ (8 * j))) (.inr rfl)
            rw [hacc] at hbr
            obtain ⟨br0, br1⟩ := hbr
            have HA' := Lib.hid hacc
            clear hx
            gi_wp2
            go_roundw
            case rel => exact ⟨j + 1, acc', by omega, by go_num, rfl, br0, br1, show _ = _ by rw [← hW.out, HD.out, wordF, HA'.out], by first | trivial | rfl⟩
            case measure => simp [intOf]; omega
          · have hword : acc = wordAt bs k := by
              rw [← hW.out, List.drop_eq_nil_of_le (by rw [List.length_take, List.length_drop]; omega)]; rfl
            clear hW
            obtain ⟨fn, tmps, assign, body, hy, hR⟩ := hY (uptoW bs k) acc wr hJs (by rw [uptoW_len]; exact hkn)
            have HWd := Lib.hid hword
            clear hword
            gi_wp2
            refine hR.mono ?_
            rintro e W3 (⟨rfl, hJ3, hk3⟩ | ⟨rfl, hJx3⟩)
            · gi_wp2
              go_roundw
              case rel => exact ⟨k + 1, p + 8, hkn, show _ = _ by rw [HP.out]; omega, by go_num, by rw [uptoW_succ, ← HWd.out]; exact hJ3, hnx.trans hk3⟩
              case measure => simp [intOf]; omega
            · gi_wp2
              refine bodyPost_ret (results_none rfl _ _ _) rfl ?_
              exact ⟨⟨_, rfl⟩, .inr ⟨_, ⟨k + 1, hkn, by rw [uptoW_succ, ← HWd.out]⟩, hJx3⟩⟩
      · have h8I : ¬ (p : Int) + 8 ≤ (len : Int) := by omega
        gi_wp2
        gi_loopw [4, 22] (fun tv ti w2 => ∃ (j : Nat) (acc : Int), j ≤ (len - p) ∧ ti = .int .i64 j ∧ tv = .int .u64 acc ∧ 0 ≤ acc ∧ acc ≤ 18446744073709551615 ∧ Hid (wordF acc j (((bs.drop p).take 8).drop j) = wordAt bs k) ∧ w2 = wr) (fun _ ti _ => (len - p) - (intOf ti).toNat)
        case atStart => exact ⟨0, 0, Nat.zero_le _, rfl, rfl, by omega, by omega, show _ = _ by rw [HP.out]; rfl, rfl⟩
        case round =>
          obtain ⟨wq, hwq⟩ : ∃ wq : World, wq = wr := ⟨_, rfl⟩
          obtain ⟨j, acc, hj, rfl, rfl, a0, a1, hW, hw2⟩ := hrel
          subst hw2
          by_cases hjM : j < (len - p)
          · obtain ⟨x, hx⟩ : ∃ x, bs[p + j]? = some x := ⟨bs[p + j]'(by omega), List.getElem?_eq_getElem (by omega)⟩
            obtain ⟨x0, x1⟩ := HW.out x (List.mem_of_getElem? hx)
            have hcx : wr.cell? ⟨b, off + p + j, none⟩ = some (.int .u8 x) := by
              rw [Nat.add_assoc]; exact (hnx.cell1 _).trans (HC.out _ x hx)
            have HD := Lib.hid (show ((bs.drop p).take 8).drop j = x :: ((bs.drop p).take 8).drop (j + 1) by
              refine drop_at ?_
              rw [List.getElem?_take_of_lt (by omega), List.getElem?_drop]; exact hx)
            obtain ⟨acc', hacc⟩ : ∃ a, bits .or .u64 acc (IntKind.u64.wrap (x * 2 ^ (8 * j))) = a := ⟨_, rfl⟩
            have hbr := bits_range .or acc (IntKind.u64.wrap (x * 2 ^ (8 * j))) (.inr rfl)
            rw [hacc] at hbr
            obtain ⟨br0, br1⟩ := hbr
            have HA' := Lib.hid hacc
            clear hx
            gi_wp2
            go_roundw
            case rel => exact ⟨j + 1, acc', by omega, by go_num, rfl, br0, br1, show _ = _ by rw [← hW.out, HD.out, wordF, HA'.out], by first | trivial | rfl⟩
            case measure => simp [intOf]; omega
          · have hword : acc = wordAt bs k := by
              rw [← hW.out, List.drop_eq_nil_of_le (by rw [List.length_take, List.length_drop]; omega)]; rfl
            clear hW
            obtain ⟨fn, tmps, assign, body, hy, hR⟩ := hY (uptoW bs k) acc wr hJs (by rw [uptoW_len]; exact hkn)
            have HWd := Lib.hid hword
            clear hword
            gi_wp2
            refine hR.mono ?_
            rintro e W3 (⟨rfl, hJ3, hk3⟩ | ⟨rfl, hJx3⟩)
            · gi_wp2
              go_roundw
              case rel => exact ⟨k + 1, p + 8, hkn, show _ = _ by rw [HP.out]; omega, by go_num, by rw [uptoW_succ, ← HWd.out]; exact hJ3, hnx.trans hk3⟩
              case measure => simp [intOf]; omega
            · gi_wp2
              refine bodyPost_ret (results_none rfl _ _ _) rfl ?_
              exact ⟨⟨_, rfl⟩, .inr ⟨_, ⟨k + 1, hkn, by rw [uptoW_succ, ← HWd.out]⟩, hJx3⟩⟩
    · have hke : k = nWords len := by unfold nWords at hk ⊢; omega
      clear hp8
      have HK := Lib.hid hke
      clear hke
      gi_wp2
      go_end0
      exact ⟨⟨_, rfl⟩, .inl ⟨_, rfl, by rw [← HK.out]; exact hJs⟩⟩

set_option maxRecDepth 100000 in
set_option maxHeartbeats 1000000 in
/-- no byte: no round -/
theorem words0_in (F : Fence) (n : Nat) (h7 : F.fn 95) (hro : F.round = none) (l Bs cap : Nat) (A : Option Addr) (J : List Int → World → Prop) (W : World) (hBs : W.cell? ⟨Bs, 0, none⟩ = some (.slice A 0 cap)) (h0 : J [] W) :
    CallsIn F n Try.prog 95 #[.func (.yield l) #[] #[], .pointer (some ⟨Bs, 0, none⟩)] W fun e W' => (∃ v, e = .returned v) ∧ J [] W' := by
  refine callsIn_of_wp Try.func95 rfl h7 ?_ hro
  simp only [Try.ntmps95, List.size_toArray, List.length_cons, List.length_nil, Nat.reduceAdd, Nat.reduceSub, Array.replicate_succ, Array.replicate_zero, List.push_toArray, List.append_toArray, List.nil_append, List.cons_append]
  gi_wp2
  gi_loopw [3] (fun i wr => i = .int .i64 0 ∧ wr = W) (fun _ _ => 0)
  case atStart => exact ⟨rfl, rfl⟩
  case round =>
    obtain ⟨rfl, rfl⟩ := hrel
    gi_wp2
    go_end0
    exact ⟨⟨_, rfl⟩, h0⟩
set_option maxHeartbeats 1000000 in
theorem wordsOf_in (F : Fence) (n : Nat) (h5 : F.fn 72) (hro : F.round = none) (a : Option Addr) (len cap : Nat) (w : World) :
    CallsIn F n Try.prog 72 #[.slice a len cap] w fun e w' => e = .returned (.func (.func 95) #[] #[.pointer (some ⟨w.heap.size, 0, none⟩)]) ∧ w' = w.alloc (.cells #[.slice a len cap] 52) := by
  refine callsIn_of_wp Try.func72 rfl h5 ?_ hro
  simp only [Try.ntmps72, List.size_toArray, List.length_cons, List.length_nil, Nat.reduceAdd, Nat.reduceSub, Array.replicate_succ, Array.replicate_zero, List.push_toArray, List.append_toArray, List.nil_append, List.cons_append]
  gi_wp2
  go_ret
  exact ⟨rfl, rfl⟩
/-- the block of a slice's bytes (the box itself where there is none) -/
def blkOf (A : Option Addr) (n Bs : Nat) : Nat := if n = 0 then Bs else (A.map (·.block)).getD Bs
theorem words_stops (F : Fence) (n : Nat) (h7 : F.fn 95) (hro : F.round = none) (hn : 1 ≤ n) (Bs : Nat) (A : Option Addr) (len cap : Nat) (bs : List Int) (hreach : len ≤ 1099511627776) (w : World) (hBs : Bs < w.heap.size)
    (hc : w.cell? ⟨Bs, 0, none⟩ = some (.slice A len cap)) (hI : Nums .u8 w A len cap bs) :
    SeqStopsK F n Try.prog 95 #[.pointer (some ⟨Bs, 0, none⟩)] (fun x : Int => #[Value.int .u64 x]) (K2 (blkOf A len Bs) Bs) (fun ys => ys = wordsL bs) (fun _ => True) (nWords len) w := fun l J Jx W hW _ _ hY h0 => by
  have hc' := (hW.cell (p := ⟨Bs, 0, none⟩) hBs).trans hc
  have hI' := hI.e hW
  rcases Nat.eq_zero_or_pos len with h0' | h0'
  · subst h0'
    have hb : bs = [] := List.eq_nil_of_length_eq_zero hI.len
    subst hb
    exact (words0_in F n h7 hro l Bs cap A J W hc' h0).mono fun e W' ⟨he, hj⟩ => ⟨he, .inl ⟨[], rfl, hj⟩⟩
  · obtain ⟨b, off, rfl, _, hcs⟩ := hI'.at_ h0'
    have hbk : blkOf (some ⟨b, off, none⟩) len Bs = b := by unfold blkOf; rw [if_neg (by omega)]; rfl
    rw [hbk] at hY
    refine (words1_in F n h7 hro hn l Bs b off len cap bs hreach hI.cap hI.len (fun x hx => wf_u8 (hI.wf x hx)) J Jx hY W hc' (fun j x hx => by
      obtain ⟨hj, rfl⟩ := List.getElem?_eq_some_iff.1 hx
      exact hcs j hj) h0).mono ?_
    rintro e W' ⟨he, ⟨ys, rfl, hj⟩ | ⟨pre, _, hj⟩⟩
    · exact ⟨he, .inl ⟨_, by rw [wordsL, hI.len]; rfl, hj⟩⟩
    · exact ⟨he, .inr ⟨_, trivial, hj⟩⟩
end Go.Proofs.Ytgbamgijpgjmgaa
/- hash.Sum. -/
namespace Go.Proofs.Ytgbamgijpgjmgaa
open Go.RowKit Go.Shelf
attribute [local go_sem] Oper.semAt_some

def bytS (s : ByteArray) : List Int := s.data.toList.map (fun b => (b.toNat : Int))
theorem bytS_len (s : ByteArray) : (bytS s).length = s.size := by simp [bytS]
def sumS (s : ByteArray) (l : List Int) : Int := mixV ((l.map IntKind.u64.wrap).foldl mixV (mixV (mixV ((wordsL (bytS s)).foldl mixV 0) s.size) (IntKind.u64.wrap l.length))) 0
theorem bytesWorld_e (w : World) (e : TypeId) (s : ByteArray) : E w (Lib.bytesWorld w e s) := by
  refine ⟨?_, ?_, ?_, ?_, ?_⟩
  · simp [Lib.bytesWorld, World.freeze, World.alloc, World.drew, -World.alloc_eq, -World.drew_eq]
  · simp [Lib.bytesWorld, World.freeze, World.alloc, World.drew, -World.alloc_eq, -World.drew_eq]
  · simp [Lib.bytesWorld, World.freeze, World.alloc, World.drew, -World.alloc_eq, -World.drew_eq]
  · rw [Lib.bytesWorld_size]; omega
  · intro b hb; exact Lib.bytesWorld_at_old w e s b hb
theorem bytesWorld_nums (w : World) (e : TypeId) (s : ByteArray) (hs : s.size ≤ 1000) : Nums .u8 (Lib.bytesWorld w e s) (some ⟨w.heap.size, 0, none⟩) s.size (grownCap w s.size 0 e) (bytS s) := by
  refine ⟨bytS_len s, grownCap_ge w _ _ _, grownCap_le_maxLen w _ _ _ (by unfold maxLen; omega), fun x hx => ?_, fun _ => ⟨_, 0, rfl, by rw [Lib.bytesWorld_size]; omega, fun i hi => ?_⟩⟩
  · obtain ⟨b, _, rfl⟩ := List.mem_map.1 hx
    have := b.toNat_lt
    exact WalkArith.wf_u8 ⟨by omega, by omega⟩
  · rw [bytS_len] at hi
    rw [Nat.zero_add, Lib.bytesWorld_cell w e s i hi]
    have : i < s.data.toList.length := by simpa using hi
    simp [bytS, List.getD_eq_getElem?_getD, List.getElem?_eq_getElem this]

theorem box_new (W : World) (v : Value) (t : TypeId) : (W.alloc (.cells #[v] t)).cell? ⟨W.heap.size, 0, none⟩ = some v ∧ (W.alloc (.cells #[v] t)).frozen? ⟨W.heap.size, 0, none⟩ = false := by
  have h := World.alloc_heap_new W (.cells #[v] t)
  constructor
  · unfold World.cell?; dsimp only; rw [h]; rfl
  · unfold World.frozen?; dsimp only; rw [h]; rfl
theorem K2.put {b c : Nat} (W : World) (l : Nat) (o' : Obj) (hb : b ≠ l) (hc : c ≠ l) : K2 b c W (W.putObj l o') := ⟨World.putObj_heap_other hb, World.putObj_heap_other hc⟩
theorem K2.set {b c : Nat} (W : World) (a : Addr) (v : Value) (hb : b ≠ a.block) (hc : c ≠ a.block) : K2 b c W (W.setCell a v) := ⟨Below.heap_setCell _ _ _ _ hb, Below.heap_setCell _ _ _ _ hc⟩
theorem blkOf_cases (b n Bs : Nat) : blkOf (some ⟨b, 0, none⟩) n Bs = Bs ∨ blkOf (some ⟨b, 0, none⟩) n Bs = b := by
  unfold blkOf
  split
  · exact .inl rfl
  · exact .inr rfl

set_option maxRecDepth 100000 in
set_option maxHeartbeats 2000000 in
theorem sum_in (F : Fence) (hro : F.round = none) (f1 : F.fn 46) (f2 : F.fn 72) (f3 : F.fn 95) (f4 : F.fn 73) (hmix : ∀ k a b W, CallsIn F k Try.prog 73 #[.int .u64 a, .int .u64 b] W fun e w' => e = .returned (.int .u64 (mixV a b)) ∧ W = w') (n : Nat) (hn : 3 ≤ n) (s : ByteArray) (hs : s.size ≤ 1000) (A : Option Addr) (m c : Nat) (l : List Int) (w : World) (h : Nums .i64 w A m c l) :
    CallsIn F n Try.prog 46 #[.string s, .slice A m c] w fun e W' => e = .returned (.int .u64 (sumS s l)) ∧ E w W' := by
  have hn1 : 1 ≤ n := by omega
  have hn2 : 1 ≤ n - 1 - 1 := by omega
  have hcv := Lib.run_convert_string_bytes (P := Try.prog) (w.alloc (.cells #[.int .u64 0] 60)) 9 52 5 s (by exact Try.underlying9) (by exact Try.underlying52) (by exact Try.underlying5)
  have hE1 : E w (w.alloc (.cells #[.int .u64 0] 60)) := (E.refl w).alloc _
  have hN2 := bytesWorld_nums (w.alloc (.cells #[.int .u64 0] 60)) 5 s hs
  have hE2 := bytesWorld_e (w.alloc (.cells #[.int .u64 0] 60)) 5 s
  have hS2 := Lib.bytesWorld_size (w.alloc (.cells #[.int .u64 0] 60)) 5 s
  rw [World.size_alloc] at hcv hN2 hS2
  generalize grownCap (w.alloc (.cells #[.int .u64 0] 60)) s.size 0 5 = cc at *
  generalize Lib.bytesWorld (w.alloc (.cells #[.int .u64 0] 60)) 5 s = w2 at *
  refine callsIn_of_wp_marks Try.func46 rfl f1 ?_ hro
  simp only [Try.ntmps46, List.size_toArray, List.length_cons, List.length_nil, Nat.reduceAdd, Nat.reduceSub, Array.replicate_succ, Array.replicate_zero, List.push_toArray, List.append_toArray, List.nil_append, List.cons_append]
  gi_wp2_with (gi_at_call 72; refine (wordsOf_in F (n - 1) f2 hro _ _ _ _).mono ?_; rintro e w' ⟨rfl, rfl⟩)
  have hb0 := box_new w (.int .u64 0) 60
  have hc2 : w2.cell? ⟨w.heap.size, 0, none⟩ = some (.int .u64 0) := (hE2.cell (p := ⟨w.heap.size, 0, none⟩) (by simp)).trans hb0.1
  have hf2 : w2.frozen? ⟨w.heap.size, 0, none⟩ = false := (Below.frozen hE2 (p := ⟨w.heap.size, 0, none⟩) (by simp)).trans hb0.2
  have hb3 := box_new w2 (.slice (some ⟨w.heap.size + 1, 0, none⟩) s.size cc) 52
  rw [hS2] at hb3
  have hE23 : E w2 (w2.alloc (.cells #[.slice (some ⟨w.heap.size + 1, 0, none⟩) s.size cc] 52)) := (E.refl _).alloc _
  have hS3 : (w2.alloc (.cells #[.slice (some ⟨w.heap.size + 1, 0, none⟩) s.size cc] 52)).heap.size = w.heap.size + 1 + 1 + 1 := by rw [World.size_alloc, hS2]
  have hN3 := hN2.e hE23
  have hc3 := (hE23.cell (p := ⟨w.heap.size, 0, none⟩) (by show w.heap.size < w2.heap.size; omega)).trans hc2
  have hf3 := (Below.frozen hE23 (p := ⟨w.heap.size, 0, none⟩) (by show w.heap.size < w2.heap.size; omega)).trans hf2
  have hE3 : E w _ := (hE1.trans hE2).trans hE23
  have hbox := hb3.1
  clear hcv hE1 hN2 hE2 hb0 hc2 hf2 hb3 hE23 hS2
  generalize w2.alloc (.cells #[.slice (some ⟨w.heap.size + 1, 0, none⟩) s.size cc] 52) = w3 at *
  have hblk : blkOf (some ⟨w.heap.size + 1, 0, none⟩) s.size (w.heap.size + 1 + 1) ≠ w.heap.size ∧ blkOf (some ⟨w.heap.size + 1, 0, none⟩) s.size (w.heap.size + 1 + 1) < w3.heap.size := by
    rcases blkOf_cases (w.heap.size + 1) s.size (w.heap.size + 1 + 1) with e | e <;> rw [e, hS3] <;> omega
  refine wpIn_rangeFunc_ownF hro hn1 (gf := 95) (lb := #[.pointer (some ⟨w.heap.size + 1 + 1, 0, none⟩)]) rfl f3 (enters_of Try.func95 (by kernel_rfl) rfl)
    (words_stops F (n - 1) f3 hro (by omega) (w.heap.size + 1 + 1) _ s.size cc (bytS s) (by omega) w3 (by omega) hbox hN3) K2.trans (fun W l o o' hl _ _ _ => K2.put W l o' (by omega) (by omega)) (Below.refl _ _) (fun _ => rfl)
    (fun pre W => (W.cell? ⟨w.heap.size, 0, none⟩ = some (.int .u64 (pre.foldl mixV 0)) ∧ W.frozen? ⟨w.heap.size, 0, none⟩ = false) ∧ Below w.heap.size w W)
    (fun _ _ _ => False)
    (OwnFrom.and (Go.Own.from (fun s A B row hs hg hr => ⟨cell_kept hs.1 hg hr, (frozen_kept hs.1 hg hr).trans hs.2⟩) _) (ownFrom_below (Nat.le_refl _) (by omega)))
    (fun _ _ _ _ _ hs _ _ => hs)
    ⟨⟨hc3, hf3⟩, hE3⟩
    (fun x => { tmps := #[.string s, .slice A m c, undef, undef, .int .u64 0, .pointer (some ⟨w.heap.size, 0, none⟩), .int .u64 x, undef, undef, .string s, .slice (some ⟨w.heap.size + 1, 0, none⟩) s.size cc, .func (.func 95) #[] #[.pointer (some ⟨w.heap.size + 1 + 1, 0, none⟩)], .int .u64 x, undef, undef, undef, undef, undef, undef, undef, undef, undef, undef, undef, undef, undef, undef, undef, undef, undef, undef, undef, undef, undef, undef, undef, undef, undef, undef], defers := [] }) ?assign ?body ?done ?stop
  case assign =>
    intro ℓ x W K hK
    gi_wp2
    exact hK
  case body =>
    rintro ℓ pre x W ⟨⟨hc, hf⟩, hB⟩ _
    gi_wp2_with (gi_at_call 73; refine (CallsIn.inRound ℓ (hmix _ _ _ _)).mono ?_; rintro e w' ⟨rfl, rfl⟩)
    exact ⟨KeepsOthers.setCell _ _ _, K2.set W ⟨w.heap.size, 0, none⟩ _ hblk.1 (by show w.heap.size + 1 + 1 ≠ w.heap.size; omega), ⟨by rw [List.foldl_append]; exact World.cell?_setCell_same' _ _ _ (by rw [hc]; rfl), by rw [World.frozen?_setCell]; exact hf⟩, hB.setCell (p := ⟨w.heap.size, 0, none⟩) (Nat.le_refl _) _⟩
  case done =>
    rintro D ys W hD rfl ⟨⟨hc, hf⟩, hB⟩ hK
    gi_wp2_with (gi_at_call 73; refine (hmix _ _ _ _).mono ?_; rintro e w' ⟨rfl, rfl⟩)
    obtain ⟨st, hst⟩ : ∃ st, mixV (mixV (List.foldl mixV 0 (wordsL (bytS s))) ↑s.size) (IntKind.u64.wrap ↑m) = st := ⟨_, rfl⟩
    have HS := Lib.hid (show sumS s l = mixV ((l.map IntKind.u64.wrap).foldl mixV st) 0 by rw [sumS, h.len, hst])
    rw [hst]
    have hcB := World.cell?_setCell_same' (W.setCell ⟨w.heap.size, 0, none⟩ (.int .u64 (mixV (List.foldl mixV 0 (wordsL (bytS s))) ↑s.size))) ⟨w.heap.size, 0, none⟩ (.int .u64 st) (by rw [World.cell?_setCell_same' _ _ _ (by rw [hc]; rfl)]; rfl)
    have hfB : ((W.setCell ⟨w.heap.size, 0, none⟩ (.int .u64 (mixV (List.foldl mixV 0 (wordsL (bytS s))) ↑s.size))).setCell ⟨w.heap.size, 0, none⟩ (.int .u64 st)).frozen? ⟨w.heap.size, 0, none⟩ = false := by rw [World.frozen?_setCell, World.frozen?_setCell]; exact hf
    have hKB := (KeepsOthers.setCell _ ⟨w.heap.size, 0, none⟩ (.int .u64 st)).same D _ ((KeepsOthers.setCell W ⟨w.heap.size, 0, none⟩ (.int .u64 (mixV (List.foldl mixV 0 (wordsL (bytS s))) ↑s.size))).same D _ hK rfl) rfl
    have hEB : Below w.heap.size w _ := (hB.setCell (p := ⟨w.heap.size, 0, none⟩) (Nat.le_refl _) (.int .u64 (mixV (List.foldl mixV 0 (wordsL (bytS s))) ↑s.size))).setCell (p := ⟨w.heap.size, 0, none⟩) (Nat.le_refl _) (.int .u64 st)
    clear hc hf hK hB
    generalize ((W.setCell ⟨w.heap.size, 0, none⟩ (.int .u64 (mixV (List.foldl mixV 0 (wordsL (bytS s))) ↑s.size))).setCell ⟨w.heap.size, 0, none⟩ (.int .u64 st)) = wB at *
    obtain ⟨R, hRd⟩ : ∃ R, sumS s l = R := ⟨_, rfl⟩
    rw [hRd] at HS
    have HRd := Lib.hid hRd
    clear hRd
    gi_loopw [28] (fun ti wr => ∃ (k : Nat) (acc : Int), k ≤ m ∧ ti = .int .i64 k ∧ wr.cell? ⟨w.heap.size, 0, none⟩ = some (.int .u64 acc) ∧ wr.frozen? ⟨w.heap.size, 0, none⟩ = false ∧ wr.heap[D]? = some (.deferred (some [])) ∧ Below w.heap.size w wr ∧ Hid (R = mixV (((l.drop k).map IntKind.u64.wrap).foldl mixV acc) 0)) (fun ti _ => m - (intOf ti).toNat)
    case atStart => exact ⟨0, st, Nat.zero_le _, rfl, hcB, hfB, hKB, hEB, show _ = _ from HS.out⟩
    case round =>
      clear hcB hfB hKB hEB
      obtain ⟨k, acc, hk, rfl, hc, hf, hK, hB, hR⟩ := hrel
      have hNw := h.e hB
      have hm63 := h.n63
      by_cases hkm : k < m
      · obtain ⟨b, o, rfl, hbl, hcs⟩ := hNw.at_ (by omega)
        obtain ⟨x, hx⟩ : ∃ x, l[k]? = some x := ⟨l[k]'(by rw [h.len]; omega), List.getElem?_eq_getElem (by rw [h.len]; omega)⟩
        have hcx : wr.cell? ⟨b, o + k, none⟩ = some (.int .i64 x) := by
          obtain ⟨hj, rfl⟩ := List.getElem?_eq_some_iff.1 hx
          exact hcs k hj
        have HD := Lib.hid (drop_at hx)
        have hkI : (k : Int) < (m : Int) := by omega
        clear hcs hx
        gi_wp2_with (gi_at_call 73; refine (hmix _ _ _ _).mono ?_; rintro e w' ⟨rfl, rfl⟩)
        go_roundw
        case rel => exact ⟨k + 1, _, by omega, by go_num, World.cell?_setCell_same' _ _ _ (by rw [hc]; rfl), by rw [World.frozen?_setCell]; exact hf, (KeepsOthers.setCell _ _ _).same D _ hK rfl, hB.setCell (p := ⟨w.heap.size, 0, none⟩) (Nat.le_refl _) _, show _ = _ by rw [hR.out, HD.out]; rfl⟩
        case measure => simp [intOf]; omega
      · have hRe : R = mixV acc 0 := by rw [hR.out, List.drop_eq_nil_of_le (by rw [h.len]; omega)]; rfl
        have HR := Lib.hid hRe
        clear hRe hR
        have hkI : ¬ (k : Int) < (m : Int) := by omega
        gi_wp2_with (gi_at_call 73; refine (hmix _ _ _ _).mono ?_; rintro e w' ⟨rfl, rfl⟩)
        refine ⟨by simp, .inl ⟨_, _, rfl, run_takeDeferred hK, ?_⟩⟩
        exact ⟨_, results_tmp rfl _ _ _, by rw [HRd.out, HR.out]; rfl, hB.trans (belowK_b (w := w) (Nat.le_refl _) _ D _ _ (by omega) hK rfl rfl)⟩
  case stop =>
    rintro D c pre W _ _ h _
    exact h.elim
theorem sum_c (s : ByteArray) (hs : s.size ≤ 1000) (A : Option Addr) (m c : Nat) (l : List Int) (w : World) (h : Nums .i64 w A m c l) :
    Calls Try.prog 46 #[.string s, .slice A m c] w fun e W' => e = .returned (.int .u64 (sumS s l)) ∧ E w W' :=
  callsIn_wide.1 (sum_in Fence.wide rfl trivial trivial trivial trivial (fun _ a b W => callsIn_wide.2 (mix_c a b W)) 3 (Nat.le_refl _) s hs A m c l w h)
end Go.Proofs.Ytgbamgijpgjmgaa
