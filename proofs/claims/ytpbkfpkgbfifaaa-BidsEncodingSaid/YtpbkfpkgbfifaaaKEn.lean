/- The encoding of bids: Encode. -/
import Derived.Test.YtpbkfpkgbfifaaaRE
import Derived.Test.YtpbkfpkgbfifaaaKM
namespace Go.Proofs.Ytpbkfpkgbfifaaa
open Go.RowKit

def zb (v : Int) : List Int := uv (zig v)
def zbs (l : List Int) : List Int := l.flatMap zb
def bdB (x : Bd) : List Int := zb x.1 ++ (zb x.2.1 ++ (zb x.2.2.length ++ zbs x.2.2))
def bdsB (l : List Bd) : List Int := l.flatMap bdB
def encB (l : List Bd) : List Int := zb l.length ++ bdsB l
theorem zbs_cons (x : Int) (l : List Int) : zbs (x :: l) = zb x ++ zbs l := rfl
theorem bdsB_cons (x : Bd) (l : List Bd) : bdsB (x :: l) = bdB x ++ bdsB l := rfl

theorem Keep.box {base g : Nat} {w w' : World} (h : Keep base g w w') {k : Nat} {cs : Array Value} {T : TypeId} {fr : Nat × Nat} (hk : w.heap[k]? = some (.cells cs T fr)) (hkg : k ≠ g) (hT : T ≠ 5) : w'.heap[k]? = some (.cells cs T fr) := by
  rw [h.2 k (blk_lt hk) hkg (fun cs' fr' e => by rw [hk] at e; injection e with e; injection e with _ e; exact hT e)]
  exact hk
theorem Keep.alloc {base g : Nat} {w w' : World} (h : Keep base g w w') (hb : base ≤ w'.heap.size) (o : Obj) : Keep base g w (w'.alloc o) :=
  ⟨h.1.alloc hb o, fun k hk hkg hb => by
    have hk' : k < w'.heap.size := Nat.lt_of_lt_of_le hk h.1.size
    rw [((E.refl w').alloc o).block hk']
    exact h.2 k hk hkg hb⟩

/-- the box of a bid -/
theorem box_cells {w : World} {B : Nat} {x : Bd} {A : Option Addr} {n c : Nat} (h : w.heap[B]? = some (.cells #[.int .i64 x.1, .int .i64 x.2.1, .slice A n c] 50 (0, 0))) :
    w.cell? ⟨B, 0, none⟩ = some (.int .i64 x.1) ∧ w.cell? ⟨B, 1, none⟩ = some (.int .i64 x.2.1) ∧ w.cell? ⟨B, 2, none⟩ = some (.slice A n c) :=
  ⟨cell_of_row _ _ 0 _ _ _ h, cell_of_row _ _ 1 _ _ _ h, cell_of_row _ _ 2 _ _ _ h⟩

set_option maxHeartbeats 2000000 in
theorem encode_c (A : Option Addr) (n c : Nat) (l : List Bd) (w : World) (h : BidsAt w A n c l) (hlen : (encB l).length ≤ 1000000000) :
    Calls Try.prog 38 #[.slice A n c] w (RetOwn .u8 5 w (encB l)) := by
  have hl := h.len
  have hn63 := h.n63
  obtain ⟨w1, hw1⟩ : ∃ w1, w.alloc (.cells #[.slice none 0 0] 90) = w1 := ⟨_, rfl⟩
  have hW1 : Wr w1 w.heap.size w.heap.size [] := by rw [← hw1]; exact Wr.new w
  have hE1 : E w w1 := by rw [← hw1]; exact (E.refl w).alloc _
  have hK1 : Below w.heap.size w w1 := hE1
  have hz1 : w1.heap.size = w.heap.size + 1 := by rw [← hw1]; simp
  have hlen0 : (zb (n : Int)).length ≤ 1000000000 := by rw [encB, hl, List.length_append] at hlen; omega
  have HL := Lib.hid hl
  have HLE := Lib.hid hlen
  have HW1 := Lib.hid hw1
  clear hw1 hl hlen
  have hgs : w.heap.size < w1.heap.size := by omega
  have hb1 : w.heap.size ≤ w1.heap.size := by omega
  clear hz1
  go_enter Try.func38, Try.ntmps38
  go_upto_region 2 with fail
  rw [HW1.out]
  clear HW1
  go_wp2_with fail
  refine (wInt_c (n : Int) _ w.heap.size _ _ hW1 (by omega) (by omega) (by simp) hb1).mono ?_
  rintro e w2 ⟨rfl, hW2, hK2⟩
  have hB2 := hK1.trans hK2.1
  have hg2 : w.heap.size < w2.heap.size := Nat.lt_of_lt_of_le hgs hK2.1.size
  clear hW1 hE1 hK1 hb1 hgs hK2
  go_wp2_with fail
  go_loopw [16] (fun ti wr => ∃ (k : Nat) (l' : List Int), k ≤ n ∧ ti = .int .i64 k ∧ Wr wr w.heap.size w.heap.size l' ∧ Below w.heap.size w wr ∧ w.heap.size < wr.heap.size ∧ Hid (l' ++ bdsB (l.drop k) = encB l)) (fun ti _ => n - (intOf ti).toNat)
  case atStart => exact ⟨0, _, Nat.zero_le _, rfl, hW2, hB2, hg2, show _ = _ by rw [encB, HL.out]; rfl⟩
  case round =>
    clear hW2 hB2 hg2
    obtain ⟨k, l', hk, rfl, hW', hB', hg', hs⟩ := hrel
    have hEw : E w wr := hB'
    by_cases hlt : k < n
    · obtain ⟨b, o, x, A1, n1, c1, rfl, hb, hx, hv1, hv2, hN, hcs⟩ := h.item hlt
      obtain ⟨hc1, hc2, hc3⟩ := hcs wr hEw
      have hbr : b < wr.heap.size := Nat.lt_of_lt_of_le hb hEw.le
      have hkI : (k : Int) < (n : Int) := by omega
      obtain ⟨x1, x2⟩ := wf_i64 hv1
      obtain ⟨y1, y2⟩ := wf_i64 hv2
      have hm63 := hN.n63
      have HD := Lib.hid (drop_at hx)
      have hall : l' ++ (zb x.1 ++ (zb x.2.1 ++ (zb (n1 : Int) ++ (zbs x.2.2 ++ bdsB (l.drop (k + 1)))))) = encB l := by
        rw [← hs.out, HD.out, bdsB_cons, bdB, hN.len]; simp only [List.append_assoc]
      have hal := congrArg List.length hall
      simp only [List.length_append] at hal
      have hle := HLE.out
      rw [← hal] at hle
      have L1 : l'.length ≤ 549755813888 := by omega
      have L2 : (l' ++ zb x.1).length ≤ 549755813888 := by rw [List.length_append]; omega
      have L3 : ((l' ++ zb x.1) ++ zb x.2.1).length ≤ 549755813888 := by simp only [List.length_append]; omega
      have HALL := Lib.hid hall
      clear hs hx hcs hall hal hle
      obtain ⟨w3, hw3⟩ : ∃ w3, wr.alloc (.cells #[.int .i64 x.1, .int .i64 x.2.1, .slice A1 n1 c1] 50) = w3 := ⟨_, rfl⟩
      have hE3 : E wr w3 := by rw [← hw3]; exact (E.refl wr).alloc _
      have hnew : w3.heap[wr.heap.size]? = some (.cells #[.int .i64 x.1, .int .i64 x.2.1, .slice A1 n1 c1] 50 (0, 0)) := by rw [← hw3]; exact heap_alloc_new _ _
      have hW3 := hW'.e hE3
      have hB3 : Below w.heap.size w w3 := hEw.trans hE3
      have hg3 : w.heap.size < w3.heap.size := Nat.lt_of_lt_of_le hg' hE3.le
      have hle3 : w.heap.size ≤ w3.heap.size := Nat.le_of_lt hg3
      have HW3 := Lib.hid hw3
      have hne : wr.heap.size ≠ w.heap.size := by omega
      have HNE := Lib.hid hne
      clear hw3 hne
      obtain ⟨d0, d1, d2⟩ := box_cells hnew
      have HNEW := Lib.hid hnew
      clear hnew
      generalize hBx : wr.heap.size = Bx at *
      go_upto_region 6 with fail
      rw [HW3.out]
      clear HW3 hBx hc1 hc2 hc3 hW' hB' hE3 hg'
      go_wp2_with fail
      refine (wInt_c x.1 _ w.heap.size _ _ hW3 x1 x2 L1 hle3).mono ?_
      rintro e w4 ⟨rfl, hW4, hK4⟩
      have hg4 : w.heap.size < w4.heap.size := Nat.lt_of_lt_of_le hg3 hK4.1.size
      have hnew4 := hK4.box HNEW.out HNE.out (by decide)
      have hB4 := hB3.trans hK4.1
      clear hW3 hB3 hg3 hle3 d0 d1 d2 HNEW hK4
      obtain ⟨d0, d1, d2⟩ := box_cells hnew4
      have HNEW := Lib.hid hnew4
      clear hnew4
      go_wp2_with fail
      refine (wInt_c x.2.1 _ w.heap.size _ _ hW4 y1 y2 L2 (Nat.le_of_lt hg4)).mono ?_
      rintro e w5 ⟨rfl, hW5, hK5⟩
      have hg5 : w.heap.size < w5.heap.size := Nat.lt_of_lt_of_le hg4 hK5.1.size
      have hnew5 := hK5.box HNEW.out HNE.out (by decide)
      have hB5 := hB4.trans hK5.1
      clear hW4 hB4 hg4 d0 d1 d2 HNEW hK5
      obtain ⟨d0, d1, d2⟩ := box_cells hnew5
      have HNEW := Lib.hid hnew5
      clear hnew5
      go_wp2_with fail
      refine (wInt_c (n1 : Int) _ w.heap.size _ _ hW5 (by omega) (by omega) L3 (Nat.le_of_lt hg5)).mono ?_
      rintro e w6 ⟨rfl, hW6, hK6⟩
      have hg6 : w.heap.size < w6.heap.size := Nat.lt_of_lt_of_le hg5 hK6.1.size
      have hnew6 := hK6.box HNEW.out HNE.out (by decide)
      have hB6 := hB5.trans hK6.1
      clear hW5 hB5 hg5 d0 d1 d2 HNEW hK6
      obtain ⟨d0, d1, d2⟩ := box_cells hnew6
      clear hnew6
      go_wp2_with fail
      go_loopw [36] (fun ti wr => ∃ (j : Nat) (l2 : List Int), j ≤ n1 ∧ ti = .int .i64 j ∧ Wr wr w.heap.size w.heap.size l2 ∧ Below w.heap.size w wr ∧ w.heap.size < wr.heap.size ∧ Hid (l2 ++ (zbs (x.2.2.drop j) ++ bdsB (l.drop (k + 1))) = encB l)) (fun ti _ => n1 - (intOf ti).toNat)
      case atStart => exact ⟨0, _, Nat.zero_le _, rfl, hW6, hB6, hg6, show _ = _ by rw [← HALL.out]; simp [zb]⟩
      case round =>
        clear hW6 hB6 hg6 d0 d1 d2
        obtain ⟨j, l2, hj, rfl, hW7, hB7, hg7, hs7⟩ := hrel
        have hE7 : E w _ := hB7
        by_cases hjn : j < n1
        · obtain ⟨b2, o2, y, rfl, hb2, hy, hwy, hcy⟩ := (hN.e hE7).get hjn
          have hjI : (j : Int) < (n1 : Int) := by omega
          obtain ⟨z1, z2⟩ := wf_i64 hwy
          have HD2 := Lib.hid (drop_at hy)
          have L4 : l2.length ≤ 549755813888 := by
            have h1 := congrArg List.length hs7.out
            have h2 := HLE.out
            rw [List.length_append] at h1
            omega
          have hle7 := Nat.le_of_lt hg7
          clear hy
          go_wp2_with fail
          refine (wInt_c y _ w.heap.size _ _ hW7 z1 z2 L4 hle7).mono ?_
          rintro e w8 ⟨rfl, hW8, hK8⟩
          have hg8 : w.heap.size < w8.heap.size := Nat.lt_of_lt_of_le hg7 hK8.1.size
          have hB8 := hB7.trans hK8.1
          clear hK8 hW7 hB7 hE7 hg7 hle7
          go_wp2_with fail
          go_roundw
          case rel => exact ⟨j + 1, _, by omega, by go_num, hW8, hB8, hg8, show _ = _ by rw [← hs7.out, HD2.out, zbs_cons]; simp [zb]⟩
          case measure => simp [intOf]; omega
        · have hjI : ¬ (j : Int) < (n1 : Int) := by omega
          have HF := Lib.hid (show l2 ++ bdsB (l.drop (k + 1)) = encB l by
            have h1 := hs7.out
            rw [List.drop_eq_nil_of_le (by rw [hN.len]; omega)] at h1
            exact h1)
          go_wp2_with fail
          go_roundw
          case rel => exact ⟨k + 1, l2, by omega, by go_num, hW7, hB7, hg7, show _ = _ from HF.out⟩
          case measure => simp [intOf]; omega
    · have hkI : ¬ (k : Int) < (n : Int) := by omega
      have HF := Lib.hid (show l' = encB l by
        have h1 := hs.out
        rw [List.drop_eq_nil_of_le (by rw [HL.out]; omega)] at h1
        simpa [bdsB] using h1)
      have hl' : l'.length ≤ 1099511627776 := by rw [HF.out]; have := HLE.out; omega
      go_wp2_with fail
      refine (wDone_c _ w.heap.size _ _ hW' hl').mono ?_
      rintro e w9 ⟨A9, n9, c9, rfl, hO9, hE9⟩
      go_wp2_with fail
      go_ret
      exact RetOwn.mk_ HF.out.symm (Own.rebase hO9 hEw.le) (hEw.trans hE9)
end Go.Proofs.Ytpbkfpkgbfifaaa
