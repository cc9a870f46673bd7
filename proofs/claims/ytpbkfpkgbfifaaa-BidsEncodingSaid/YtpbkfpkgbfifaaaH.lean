/- Contracts of the writer of package wire. -/
import Derived.Test.YtpbkfpkgbfifaaaLN
import Derived.Test.YtpbkfpkgbfifaaaV
import Derived.Test.YtpbkfpkgbfifaaaChecked
namespace Go.Proofs.Ytpbkfpkgbfifaaa
open Go.RowKit

theorem byteT : IntT Try.prog 58 5 .u8 1 := ⟨Try.underlying58, by kernel_rfl, by decide⟩

set_option maxHeartbeats 400000 in
theorem zigzag_c (n : Int) (w : World) (h1 : -9223372036854775808 ≤ n) (h2 : n ≤ 9223372036854775807) :
    Calls Try.prog 75 #[.int .i64 n] w fun e w' => e = .returned (.int .u64 (zig n)) ∧ w = w' := by
  have HZ := Lib.hid (zig_bits n h1 h2)
  go_enter Try.func75, Try.ntmps75
  go_wp2
  go_ret
  exact ⟨ret_int HZ.out, rfl⟩

theorem Own.far {k : IntKind} {T : TypeId} {w : World} {base : Nat} {A : Option Addr} {n c : Nat} {l : List Int} (h : Own k T w base A n c l) {p : Addr} (hp : (Value.slice A n c).ownBlock ≠ some p.block) (u : Value) : Own k T (w.setCell p u) base A n c l := by
  obtain ⟨h1, ⟨a1, a2⟩, h3⟩ := h
  refine ⟨h1, ⟨a1, ?_⟩, h3⟩
  rcases a2 with a2 | ⟨g, cap, cur, hv, hb, hh, r⟩
  · exact .inl a2
  · refine .inr ⟨g, cap, cur, hv, hb, ?_, r⟩
    rw [Below.heap_setCell _ _ _ _ (fun e => hp (by rw [hv]; simp [Value.ownBlock, e]))]
    exact hh
theorem Own.apart {k : IntKind} {T T' : TypeId} {w : World} {base : Nat} {A : Option Addr} {n c g : Nat} {l : List Int} {cs : Array Value} (h : Own k T w base A n c l) (hg : w.heap[g]? = some (.cells cs T' (0, 0))) (hT : T ≠ T') : (Value.slice A n c).ownBlock ≠ some g := by
  obtain ⟨h1, ⟨a1, a2⟩, h3⟩ := h
  rcases a2 with ⟨hv, _⟩ | ⟨g', cap, cur, hv, hb, hh, r⟩
  · rw [hv]; simp [Value.ownBlock]
  · intro he
    rw [hv] at he
    have : g' = g := by simpa [Value.ownBlock] using he
    subst this
    rw [hh] at hg
    injection hg with hg
    injection hg with _ ht
    exact hT ht

/-- block g is a writer that holds the bytes l; it and its row lie from block base on -/
def Wr (w : World) (base g : Nat) (l : List Int) : Prop := base ≤ g ∧ ∃ A n c, w.heap[g]? = some (.cells #[.slice A n c] 90 (0, 0)) ∧ Own .u8 5 w base A n c l
theorem blk_lt {w : World} {g : Nat} {o : Obj} (h : w.heap[g]? = some o) : g < w.heap.size := by
  rcases Nat.lt_or_ge g w.heap.size with hlt | hge
  · exact hlt
  · rw [Array.getElem?_eq_none hge] at h; cases h
theorem Wr.e {w w' : World} {base g : Nat} {l : List Int} (h : Wr w base g l) (he : E w w') : Wr w' base g l := by
  obtain ⟨hb, A, n, c, h1, h2⟩ := h
  exact ⟨hb, A, n, c, by rw [he.block (blk_lt h1)]; exact h1, h2.e he⟩
/-- below base nothing has turned, and above it no block but g and blocks of bytes -/
def Keep (base g : Nat) (w w' : World) : Prop := Below base w w' ∧ ∀ k, k < w.heap.size → k ≠ g → (∀ cs fr, w.heap[k]? ≠ some (.cells cs 5 fr)) → w'.heap[k]? = w.heap[k]?
theorem Keep.refl (base g : Nat) (w : World) : Keep base g w w := ⟨Below.refl _ _, fun _ _ _ _ => rfl⟩
theorem Keep.trans {base g : Nat} {a b c : World} (h : Keep base g a b) (k : Keep base g b c) : Keep base g a c :=
  ⟨h.1.trans k.1, fun i hi hne hb => by
    have e := h.2 i hi hne hb
    rw [k.2 i (Nat.lt_of_lt_of_le hi h.1.size) hne (by rw [e]; exact hb), e]⟩
def RetW (w : World) (base g : Nat) (l : List Int) (e : Ending) (w' : World) : Prop := e = .returned (.tuple #[]) ∧ Wr w' base g l ∧ Keep base g w w'

theorem wr_app {w w1 : World} {base g n c g' c' : Nat} {l l' : List Int} {A : Option Addr} (hb : base ≤ g) (hg : w.heap[g]? = some (.cells #[.slice A n c] 90 (0, 0))) (hO : Own .u8 5 w base A n c l) (hbw : base ≤ w.heap.size)
    (hO1 : Own .u8 5 w1 base (some ⟨g', 0, none⟩) (n + 1) c' l') (hG : w.grownBy w1 (Value.slice A n c).ownBlock) :
    w1.cell? ⟨g, 0, none⟩ = some (.slice A n c) ∧ w1.frozen? ⟨g, 0, none⟩ = false ∧ Wr (w1.setCell ⟨g, 0, none⟩ (.slice (some ⟨g', 0, none⟩) (n + 1) c')) base g l' ∧ Keep base g w (w1.setCell ⟨g, 0, none⟩ (.slice (some ⟨g', 0, none⟩) (n + 1) c')) := by
  have hne := hO.apart hg (by decide)
  have hg1 : w1.heap[g]? = some (.cells #[.slice A n c] 90 (0, 0)) := by rw [hG.block g (blk_lt hg) (fun e => hne e.symm)]; exact hg
  refine ⟨by rw [cell_of_row _ _ _ _ _ _ hg1]; rfl, frozen_of_row _ _ _ _ _ hg1, ⟨hb, _, _, _, ?_, hO1.far (p := ⟨g, 0, none⟩) (hO1.apart hg1 (by decide)) _⟩, ?_, ?_⟩
  · rw [heap_setCell_same _ _ _ _ _ _ hg1]; rfl
  · exact ((Below.refl base w).grown hG hbw (ownBlock_le hO)).setCell (p := ⟨g, 0, none⟩) hb _
  · intro k hk hkg hnb
    rw [Below.heap_setCell _ _ _ _ hkg]
    refine hG.block k hk (fun e => ?_)
    obtain ⟨_, ⟨_, a2⟩, _⟩ := hO
    rcases a2 with ⟨hv, _⟩ | ⟨q, cap, cur, hv, _, hh, _⟩
    · rw [hv] at e; simp [Value.ownBlock] at e
    · rw [hv] at e
      have : k = q := by simpa [Value.ownBlock] using e
      subst this
      exact hnb _ _ hh

set_option maxHeartbeats 1000000 in
theorem wUint_c (v g base : Nat) (l : List Int) (w : World) (hW : Wr w base g l) (hv : v < 18446744073709551616) (hl : l.length ≤ 549755813888) (hbw : base ≤ w.heap.size) :
    Calls Try.prog 74 #[.pointer (some ⟨g, 0, none⟩), .int .u64 v] w (RetW w base g (l ++ uv v)) := by
  have hu := uv_len10 hv
  have HV := Lib.hid hv
  clear hv
  go_enter Try.func74, Try.ntmps74
  go_wp2
  go_loopw [1] (fun t wr => ∃ (v' : Nat) (l' : List Int), t = .int .u64 v' ∧ Hid (v' < 18446744073709551616) ∧ Wr wr base g l' ∧ Keep base g w wr ∧ Hid (l' ++ uv v' = l ++ uv v)) (fun t _ => (intOf t).toNat)
  case atStart => exact ⟨v, l, rfl, HV.out, hW, Keep.refl _ _ _, rfl⟩
  case round =>
    obtain ⟨v', l', rfl, hv', ⟨hbg, A, n, c, hg, hO⟩, hB, hs⟩ := hrel
    have hn : n ≤ 549755813900 := by
      have := congrArg List.length hs.out
      simp only [List.length_append] at this
      rw [hO.1] at this; omega
    have hbr : base ≤ wr.heap.size := by have := hB.1.size; omega
    have hc0 : wr.cell? ⟨g, 0, none⟩ = some (.slice A n c) := by rw [cell_of_row _ _ _ _ _ _ hg]; rfl
    have HG := Lib.hid hg
    clear hg
    have e1 : bits .or .u8 ((v' : Int) % 256) 128 = (((v' % 128 + 128 : Nat) : Int)) := by rw [or128 _ (by omega) (by omega)]; omega
    have E1 := Lib.hid e1
    clear e1
    by_cases h128 : 128 ≤ (v' : Int)
    · have HU := Lib.hid (uv_big (n := v') (by omega))
      go_wp2_with (at_builtin; rw [E1.out]; refine wpList_app1n byteT _ rfl _ _ rfl _ _ _ _ _ rfl hO _ rfl (WalkArith.wf_u8 (by omega)) (by omega) hbr ?_; intro g' c2 w1 hO1 hG hB1 hor; obtain ⟨hc1, hf1, hW1, hK1⟩ := wr_app hbg HG.out hO hbr hO1 hG)
      go_roundw
      case rel => exact ⟨v' / 128, _, by go_num, show v' / 128 < 18446744073709551616 by have := hv'.out; omega, hW1, hB.trans hK1, show _ = _ by rw [← hs.out, HU.out]; simp⟩
      case measure => simp [intOf]; omega
    · have HU := Lib.hid (uv_small (n := v') (by omega))
      go_wp2_with (at_builtin; refine wpList_app1n byteT _ rfl _ _ rfl _ _ _ _ _ rfl hO _ rfl (WalkArith.wf_u8 (by omega)) (by omega) hbr ?_; intro g' c2 w1 hO1 hG hB1 hor; obtain ⟨hc1, hf1, hW1, hK1⟩ := wr_app hbg HG.out hO hbr hO1 hG)
      go_end0
      refine ⟨rfl, ?_, hB.trans hK1⟩
      rw [← hs.out, HU.out]
      exact hW1

set_option maxHeartbeats 400000 in
theorem wInt_c (v : Int) (g base : Nat) (l : List Int) (w : World) (hW : Wr w base g l) (h1 : -9223372036854775808 ≤ v) (h2 : v ≤ 9223372036854775807) (hl : l.length ≤ 549755813888) (hbw : base ≤ w.heap.size) :
    Calls Try.prog 62 #[.pointer (some ⟨g, 0, none⟩), .int .i64 v] w (RetW w base g (l ++ uv (zig v))) := by
  have HZ := Lib.hid (zig_lt v h1 h2)
  go_enter Try.func62, Try.ntmps62
  go_wp2_with (first
    | (go_at_call 75; refine (zigzag_c _ _ h1 h2).mono ?_; rintro e w' ⟨rfl, rfl⟩)
    | (go_at_call 74; refine (wUint_c _ _ base _ _ hW HZ.out hl hbw).mono ?_; rintro e w' ⟨rfl, hW1, hB1⟩))
  go_end0
  exact ⟨rfl, hW1, hB1⟩
end Go.Proofs.Ytpbkfpkgbfifaaa
