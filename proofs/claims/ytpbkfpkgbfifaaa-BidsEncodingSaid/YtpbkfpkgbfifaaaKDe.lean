/- The encoding of bids: Decode. -/
import Derived.Test.YtpbkfpkgbfifaaaKEn
import Derived.Test.YtpbkfpkgbfifaaaKQ
import Derived.Test.YtpbkfpkgbfifaaaKD
namespace Go.Proofs.Ytpbkfpkgbfifaaa
open Go.RowKit

def rdInts : Nat → List Int → List Int → Int → List Int × List Int × Int
  | 0, acc, r, e => (acc, r, e)
  | k + 1, acc, r, e => rdInts k (acc ++ [(rdIS r e).1]) (rdIS r e).2.1 (rdIS r e).2.2
/-- one bid: nothing if the count is no count -/
def rdBid (N : Nat) (r : List Int) (e : Int) : Option (Bd × List Int × Int) :=
  let x := rdIS r e
  let y := rdIS x.2.1 x.2.2
  let z := rdIS y.2.1 y.2.2
  if z.1 < 0 ∨ (N : Int) < z.1 then none else
    let q := rdInts z.1.toNat [] z.2.1 z.2.2
    some ((x.1, y.1, q.1), q.2.1, q.2.2)
def rdBids (N : Nat) : Nat → List Bd → List Int → Int → Option (List Bd × List Int × Int)
  | 0, acc, r, e => some (acc, r, e)
  | k + 1, acc, r, e => match rdBid N r e with
    | none => none
    | some (x, r', e') => rdBids N k (acc ++ [x]) r' e'
def decF (b : List Int) : List Bd × Int :=
  let x := rdIS b 0
  if x.1 < 0 ∨ (b.length : Int) < x.1 then ([], 2) else
    match rdBids b.length x.1.toNat [] x.2.1 x.2.2 with
    | none => ([], 2)
    | some (l, r, e) => if endS r e = 0 then (l, 0) else ([], 2)

theorem rdIS_wf {r : List Int} {e : Int} (hb : ∀ x ∈ r, 0 ≤ x ∧ x ≤ 255) : -9223372036854775808 ≤ (rdIS r e).1 ∧ (rdIS r e).1 ≤ 9223372036854775807 := by
  obtain ⟨z, hz, hl⟩ := rdUS_nat (err := e) hb
  simp only [rdIS, hz, Int.toNat_natCast]
  exact unzig_range hl
theorem Rd.below {w w' : World} {base g : Nat} {rest : List Int} {err : Int} (h : Rd w g rest err) (hB : Below base w w') (hg : g < base) : Rd w' g rest err := by
  obtain ⟨A, n, c, h1, hN, hb⟩ := h
  refine ⟨A, n, c, by rw [hB.block g hg]; exact h1, ⟨hN.len, hN.cap, hN.mx, hN.wf, fun hn => ?_⟩, hb⟩
  obtain ⟨b, o, e, h2, h3⟩ := hN.at_ hn
  have hbg := hb b o e hn
  exact ⟨b, o, e, Nat.lt_of_lt_of_le h2 hB.size, fun i hi => (hB.cell (p := ⟨b, o + i, none⟩) (by show b < base; omega)).trans (h3 i hi)⟩
theorem Rd.lt {w : World} {g : Nat} {rest : List Int} {err : Int} (h : Rd w g rest err) : g < w.heap.size := by
  obtain ⟨A, n, c, h1, _⟩ := h
  exact blk_lt h1
theorem Rd.e {w w' : World} {g : Nat} {rest : List Int} {err : Int} (h : Rd w g rest err) (hE : E w w') : Rd w' g rest err := h.below hE h.lt
theorem grown_below {w w2 w3 : World} {r : Option Nat} (h : w.grownBy w2 r) (hB : Below w.heap.size w2 w3) : w.grownBy w3 r :=
  ⟨hB.os.trans h.os, hB.tape.trans h.tape, hB.output.trans h.output, Nat.le_trans h.size hB.size, fun i hi hne => (hB.block i hi).trans (h.block i hi hne)⟩
theorem Own.rd {w w' : World} {base g : Nat} {A : Option Addr} {n c : Nat} {l : List Int} (h : Own .i64 3 w base A n c l) (hG : w.grownBy w' (some g)) (hg : g < base) : Own .i64 3 w' base A n c l :=
  ⟨h.1, World.ownsRow.kept h.2.1 hG (.inr (fun e => by
    rw [ob_eq] at e
    have := (h.ltN g e).1
    omega)), h.2.2⟩
theorem BRow.rd {T : TypeId} {w w' : World} {base g : Nat} {A : Option Addr} {n c : Nat} {q : List (Bd × Sl)} (h : BRow T w base A n c q) (hG : w.grownBy w' (some g)) (hg : g < base) (hq : ∀ p ∈ q, 0 < p.2.2.1 → ob p.2.1 ≠ some g) : BRow T w' base A n c q :=
  ⟨h.1, World.ownsRow.kept h.2.1 hG (.inr (fun e => by
    rw [ob_eq] at e
    have := (h.ltN g e).1
    omega)), fun p hp => by
    obtain ⟨h1, h2, h3, h4⟩ := h.2.2 p hp
    exact ⟨h1, h2, h3.grown hG (hq p hp), h4⟩⟩
theorem rd_blk {w w' : World} {g B : Nat} {o : Obj} (hG : w.grownBy w' (some g)) (h : w.heap[B]? = some o) (hg : g ≠ B) : w'.heap[B]? = some o := by
  rw [hG.block B (blk_lt h) (fun e => hg (by injection e with e; exact e.symm))]
  exact h
theorem grow_refl_e {w w' : World} {g : Nat} (hE : E w w') : w.grownBy w' (some g) := grown_below (World.grownBy.refl _ _) hE

/-- what the round of the inner loop needs, behind the call -/
theorem dec_mid {wr w3 : World} {g B Bq : Nat} {A1 : Option Addr} {j c1 : Nat} {acc : List Int} {u v : Value}
    (hO : Own .i64 3 wr Bq A1 j c1 acc) (hbox : wr.heap[B]? = some (.cells #[u, v, .slice A1 j c1] 50 (0, 0))) (hgq : g < Bq) (hBq : Bq ≤ B) (hG3 : wr.drew.grownBy w3 (some g)) (o : Obj) :
    w3.heap[B]? = some (.cells #[u, v, .slice A1 j c1] 50 (0, 0)) ∧ w3.cell? ⟨B, 2, none⟩ = some (.slice A1 j c1) ∧ Own .i64 3 (w3.alloc o) Bq A1 j c1 acc ∧ Bq ≤ (w3.alloc o).heap.size := by
  have h1 : w3.heap[B]? = some (.cells #[u, v, .slice A1 j c1] 50 (0, 0)) := rd_blk hG3 (by exact hbox) (by omega)
  have h2 : Own .i64 3 w3 Bq A1 j c1 acc := (hO.e ((E.refl wr).drew)).rd hG3 hgq
  have := blk_lt h1
  exact ⟨h1, cell_of_row _ _ 2 _ _ _ h1, h2.e ((E.refl w3).alloc o), by simp; omega⟩
theorem dec_end {wq wr w3 w4 : World} {g B : Nat} {A1 : Option Addr} {j c1 g' c' : Nat} {acc acc' : List Int} {u v : Value} {r3 : List Int} {e3 : Int} {o : Obj}
    (hO : Own .i64 3 (w3.alloc o) wq.heap.size A1 j c1 acc) (hbox : w3.heap[B]? = some (.cells #[u, v, .slice A1 j c1] 50 (0, 0))) (hgq : g < wq.heap.size) (hBq : wq.heap.size ≤ B) (hG : wq.grownBy wr (some g)) (hG3 : wr.drew.grownBy w3 (some g)) (hR3 : Rd w3 g r3 e3)
    (hO4 : Own .i64 3 w4 wq.heap.size (some ⟨g', 0, none⟩) (j + 1) c' acc') (hG4 : (w3.alloc o).grownBy w4 (Value.slice A1 j c1).ownBlock) (hB4 : Below wq.heap.size (w3.alloc o) w4) :
    w4.cell? ⟨B, 2, none⟩ = some (.slice A1 j c1) ∧ w4.frozen? ⟨B, 2, none⟩ = false ∧
    (w4.setCell ⟨B, 2, none⟩ (.slice (some ⟨g', 0, none⟩) (j + 1) c')).heap[B]? = some (.cells #[u, v, .slice (some ⟨g', 0, none⟩) (j + 1) c'] 50 (0, 0)) ∧
    Own .i64 3 (w4.setCell ⟨B, 2, none⟩ (.slice (some ⟨g', 0, none⟩) (j + 1) c')) wq.heap.size (some ⟨g', 0, none⟩) (j + 1) c' acc' ∧
    Rd (w4.setCell ⟨B, 2, none⟩ (.slice (some ⟨g', 0, none⟩) (j + 1) c')) g r3 e3 ∧ wq.grownBy (w4.setCell ⟨B, 2, none⟩ (.slice (some ⟨g', 0, none⟩) (j + 1) c')) (some g) := by
  have hbA : (w3.alloc o).heap[B]? = some (.cells #[u, v, .slice A1 j c1] 50 (0, 0)) := by rw [((E.refl w3).alloc o).block (blk_lt hbox)]; exact hbox
  have hb4 : w4.heap[B]? = some (.cells #[u, v, .slice A1 j c1] 50 (0, 0)) := by
    rw [hG4.block B (blk_lt hbA) (fun e => hO.apart hbA (by decide) e.symm)]; exact hbA
  have hBw : Below wq.heap.size w3 (w4.setCell ⟨B, 2, none⟩ (.slice (some ⟨g', 0, none⟩) (j + 1) c')) := by
    have h0 : wq.heap.size ≤ w3.heap.size := by have := hG.size; have := hG3.size; exact Nat.le_trans hG.size hG3.size
    exact (((Below.refl wq.heap.size w3).alloc h0 o).trans hB4).setCell (p := ⟨B, 2, none⟩) hBq _
  refine ⟨cell_of_row _ _ 2 _ _ _ hb4, frozen_of_row _ _ _ _ _ hb4, by rw [heap_setCell_same _ _ _ _ _ _ hb4]; rfl, hO4.far (p := ⟨B, 2, none⟩) (hO4.apart hb4 (by decide)) _, hR3.below hBw hgq, grown_below (grownBy_trans (grown_below hG ⟨rfl, rfl, rfl, Nat.le_refl _, fun _ _ => rfl⟩) ?_) hBw⟩
  exact ⟨hG3.os, hG3.tape, hG3.output, hG3.size, hG3.block⟩

def OffG (q : List (Bd × Sl)) (g : Nat) : Prop := ∀ p ∈ q, 0 < p.2.2.1 → ob p.2.1 ≠ some g
theorem offG_nil (g : Nat) : OffG [] g := fun p hp => by simp at hp
def RetDec (w : World) (r : List Bd × Int) (e : Ending) (w' : World) : Prop := ∃ A n c q, e = .returned (.tuple #[.slice A n c, .int .i64 r.2]) ∧ BRow 50 w' w.heap.size A n c q ∧ q.map Prod.fst = r.1 ∧ E w w'
theorem RetDec.bad {w w' : World} {r : List Bd × Int} (hr : r = ([], 2)) (hE : E w w') : RetDec w r (.returned (.tuple #[.slice none 0 0, .int .i64 2])) w' := by
  subst hr; exact ⟨none, 0, 0, [], rfl, BRow.nil _ _ _, rfl, hE⟩

set_option maxHeartbeats 4000000 in
set_option maxRecDepth 100000 in
theorem decode_c (A : Option Addr) (n c : Nat) (b : List Int) (w : World) (h : Nums .u8 w A n c b) (hn : n ≤ 1000000) :
    Calls Try.prog 39 #[.slice A n c] w (RetDec w (decF b)) := by
  obtain ⟨N0, r0, e0, hx0⟩ : ∃ N r e, rdIS b 0 = (N, r, e) := ⟨_, _, _, rfl⟩
  have hlen := h.len
  obtain ⟨F, hF⟩ : ∃ F, decF b = F := ⟨_, rfl⟩
  rw [hF]
  have HF1 := Lib.hid (show (N0 < 0 ∨ (n : Int) < N0) → F = ([], 2) by
    intro hh
    rw [← hF, decF]; simp only [hx0, hlen, if_pos hh])
  have HF2 := Lib.hid (show ¬ (N0 < 0 ∨ (n : Int) < N0) → F = (match rdBids n N0.toNat [] r0 e0 with | none => ([], 2) | some (l, r, e) => if endS r e = 0 then (l, 0) else ([], 2)) by
    intro hh
    rw [← hF, decF]; simp only [hx0, hlen, if_neg hh])
  have HX := Lib.hid hx0
  clear hx0 hF hlen
  go_enter Try.func39, Try.ntmps39
  go_wp2_with fail
  refine (read_c _ _ _ b _ h (by omega)).mono ?_
  rintro e w1 ⟨g, rfl, hR1, hgw, hE1⟩
  have hg1 := hR1.lt
  go_wp2_with fail
  refine (rInt_c _ _ _ _ hR1).mono ?_
  rintro e w2 ⟨rfl, hR2, hG2⟩
  have hwf0 := rdIS_wf (e := 0) hR1.bytes
  rw [HX.out] at hR2 hwf0 ⊢
  obtain ⟨N1, N2⟩ := hwf0
  simp only at hR2 N1 N2 ⊢
  have hE2 : E w w2 := hE1.grown hG2 (fun k hk => by injection hk with hk; omega)
  have hn63 : (n : Int) ≤ 1000000 := by omega
  have hb2 : w1.heap.size ≤ w2.heap.size := hG2.size
  clear hR1 hG2 hE1
  by_cases hbad : N0 < 0 ∨ (n : Int) < N0
  · have HB := Lib.hid (HF1.out hbad)
    by_cases h0 : N0 < 0
    · clear hbad
      go_wp2_with fail
      go_ret2
      exact RetDec.bad HB.out hE2
    · have h1 : (n : Int) < N0 := by omega
      have d0 : decide (N0 < 0) = false := by simpa using h0
      clear hbad
      go_wp2_with fail
      go_ret2
      exact RetDec.bad HB.out hE2
  · have HFF := HF2.out hbad
    have h0 : ¬ N0 < 0 := fun hh => hbad (.inl hh)
    have h1 : ¬ (n : Int) < N0 := fun hh => hbad (.inr hh)
    obtain ⟨N, rfl⟩ : ∃ N : Nat, N0 = (N : Int) := ⟨N0.toNat, by omega⟩
    have hNn : N ≤ n := by omega
    have d0 : decide ((N : Int) < 0) = false := by simp
    have d1 : decide ((n : Int) < (N : Int)) = false := by simpa using h1
    rw [Int.toNat_natCast] at HFF
    obtain ⟨FB, hFB⟩ : ∃ FB, rdBids n N [] r0 e0 = FB := ⟨_, rfl⟩
    rw [hFB] at HFF
    have HFF' := Lib.hid HFF
    have HFB := Lib.hid hFB
    clear hbad HFF hFB HF1 HF2 h0 h1
    go_wp2_with fail
    go_loopw [6, 22] (fun t6 ti wr => ∃ (k c' : Nat) (A' : Option Addr) (q : List (Bd × Sl)) (r : List Int) (e : Int), k ≤ N ∧ ti = .int .i64 k ∧ t6 = .slice A' k c' ∧ BRow 50 wr w1.heap.size A' k c' q ∧ OffG q g ∧ Rd wr g r e ∧ E w wr ∧ w1.heap.size ≤ wr.heap.size ∧ Hid (rdBids n (N - k) (q.map Prod.fst) r e = FB)) (fun _ ti _ => N - (intOf ti).toNat)
    case atStart => exact ⟨0, 0, none, [], r0, e0, Nat.zero_le _, rfl, rfl, BRow.nil _ _ _, offG_nil g, hR2, hE2, hb2, show _ = _ from HFB.out⟩
    case round =>
      clear hR2 hE2 hb2
      obtain ⟨k, c', A', q, r, e, hk, rfl, rfl, hR, HQ, hRd, hE, hbr, hs⟩ := hrel
      by_cases hlt : k < N
      · have hkI : (k : Int) < (N : Int) := by omega
        obtain ⟨m, hm⟩ : ∃ m, N - k = m + 1 := ⟨N - k - 1, by omega⟩
        obtain ⟨x, r1, e1, hx⟩ : ∃ x r1 e1, rdIS r e = (x, r1, e1) := ⟨_, _, _, rfl⟩
        obtain ⟨y, r2, e2, hy⟩ : ∃ y r2 e2, rdIS r1 e1 = (y, r2, e2) := ⟨_, _, _, rfl⟩
        obtain ⟨z, r3, e3, hz⟩ : ∃ z r3 e3, rdIS r2 e2 = (z, r3, e3) := ⟨_, _, _, rfl⟩
        have hs' := hs.out
        rw [hm, rdBids, rdBid] at hs'
        simp only [hx, hy, hz] at hs'
        have hm' : N - (k + 1) = m := by omega
        have hx1 := rdIS_wf (e := e) hRd.bytes
        have HS := Lib.hid hs'
        have HX := Lib.hid hx
        have HY := Lib.hid hy
        have HZ := Lib.hid hz
        have HM := Lib.hid hm'
        clear hs' hs hx hy hz hm hm'
        rw [HX.out] at hx1
        obtain ⟨x1, x2⟩ := hx1
        obtain ⟨wq, hwq⟩ : ∃ wq, wq = wr := ⟨_, rfl⟩
        subst hwq
        have hgq : g < wq.heap.size := Nat.lt_of_lt_of_le hg1 hbr
        go_wp2_with fail
        refine (rInt_c _ _ _ _ hRd).mono ?_
        rintro ee w3 ⟨rfl, hR3, hG3⟩
        rw [HX.out] at hR3 ⊢
        simp only at hR3 x1 x2 ⊢
        have hy1 := rdIS_wf (e := e1) hR3.bytes
        rw [HY.out] at hy1
        obtain ⟨y1, y2⟩ := hy1
        go_wp2_with fail
        refine (rInt_c _ _ _ _ hR3).mono ?_
        rintro ee w4 ⟨rfl, hR4, hG4⟩
        rw [HY.out] at hR4 ⊢
        simp only at hR4 y1 y2 ⊢
        have hG04 := grownBy_trans hG3 hG4
        clear hR3 hG3 hG4
        obtain ⟨w5, hw5⟩ : ∃ w5, w4.alloc (.cells #[.int .i64 x, .int .i64 y, .slice none 0 0] 50) = w5 := ⟨_, rfl⟩
        obtain ⟨B, hBx⟩ : ∃ B, w4.heap.size = B := ⟨_, rfl⟩
        have hE45 : E w4 w5 := by rw [← hw5]; exact (E.refl w4).alloc _
        have hbox5 : w5.heap[B]? = some (.cells #[.int .i64 x, .int .i64 y, .slice none 0 0] 50 (0, 0)) := by rw [← hw5, ← hBx]; exact heap_alloc_new _ _
        have hR5 := hR4.e hE45
        have hG05 : wq.grownBy w5 (some g) := grown_below hG04 (Below.mono hE45 hG04.size)
        have hBq : wq.heap.size ≤ B := by rw [← hBx]; exact hG04.size
        have HW5 := Lib.hid hw5
        have HBX := Lib.hid hBx
        clear hw5 hBx hR4 hG04 hE45
        go_upto_region 9 with fail
        rw [HBX.out, HW5.out]
        clear HBX HW5
        have hz1 := rdIS_wf (e := e2) hR5.bytes
        rw [HZ.out] at hz1
        obtain ⟨z1, z2⟩ := hz1
        go_wp2_with fail
        refine (rInt_c _ _ _ _ hR5).mono ?_
        rintro ee w6 ⟨rfl, hR6, hG6⟩
        rw [HZ.out] at hR6 ⊢
        simp only at hR6 z1 z2 ⊢
        have hG06 := grownBy_trans hG05 hG6
        have hbox6 := rd_blk hG6 hbox5 (by omega)
        have hE6 : E w w6 := hE.grown hG06 (fun k hk => by injection hk with hk; omega)
        clear hR5 hG05 hG6 hbox5
        by_cases hbad : z < 0 ∨ (n : Int) < z
        · have HB := Lib.hid (show F = ([], 2) by
            have h1 := HS.out
            rw [if_pos hbad] at h1
            rw [HFF'.out, ← h1])
          clear HS
          by_cases h0 : z < 0
          · clear hbad
            go_wp2_with fail
            go_ret2
            exact RetDec.bad HB.out hE6
          · have h1 : (n : Int) < z := by omega
            have dz0 : decide (z < 0) = false := by simpa using h0
            clear hbad
            go_wp2_with fail
            go_ret2
            exact RetDec.bad HB.out hE6
        · have h1 := HS.out
          rw [if_neg hbad] at h1
          have hz0 : ¬ z < 0 := fun hh => hbad (.inl hh)
          have hzn : ¬ (n : Int) < z := fun hh => hbad (.inr hh)
          obtain ⟨Z, rfl⟩ : ∃ Z : Nat, z = (Z : Int) := ⟨z.toNat, by omega⟩
          rw [Int.toNat_natCast] at h1
          have hZn : Z ≤ n := by omega
          have dz0 : decide ((Z : Int) < 0) = false := by simp
          have dz1 : decide ((n : Int) < (Z : Int)) = false := by simpa using hzn
          obtain ⟨FI, hFI⟩ : ∃ FI, rdInts Z [] r3 e3 = FI := ⟨_, rfl⟩
          rw [hFI] at h1
          have HS' := Lib.hid h1
          have HFI := Lib.hid hFI
          clear HS h1 hFI hbad hz0 hzn
          go_wp2_with fail
          go_loopw [40] (fun ti wr => ∃ (j c1 : Nat) (A1 : Option Addr) (acc r : List Int) (e : Int), j ≤ Z ∧ ti = .int .i64 j ∧ wr.heap[B]? = some (.cells #[.int .i64 x, .int .i64 y, .slice A1 j c1] 50 (0, 0)) ∧ Own .i64 3 wr wq.heap.size A1 j c1 acc ∧ Rd wr g r e ∧ wq.grownBy wr (some g) ∧ Hid (rdInts (Z - j) acc r e = FI)) (fun ti _ => Z - (intOf ti).toNat)
          case atStart => exact ⟨0, 0, none, [], r3, e3, Nat.zero_le _, rfl, hbox6, Own.nil _ _ _ _, hR6, hG06, show _ = _ from HFI.out⟩
          case round =>
            clear hbox6 hR6 hG06 hE6
            obtain ⟨j, c1, A1, acc, r7, e7, hj, rfl, hbox, hO, hR7, hG7, hs7⟩ := hrel
            by_cases hjZ : j < Z
            · have hjI : (j : Int) < (Z : Int) := by omega
              obtain ⟨m7, hm7⟩ : ∃ m7, Z - j = m7 + 1 := ⟨Z - j - 1, by omega⟩
              obtain ⟨v, r8, e8, hv⟩ : ∃ v r8 e8, rdIS r7 e7 = (v, r8, e8) := ⟨_, _, _, rfl⟩
              have hv1 := rdIS_wf (e := e7) hR7.bytes
              rw [hv] at hv1
              have hwv : (Lit.int .i64 v).wf = true := wf_of_i64 hv1.1 hv1.2
              have HS8 := Lib.hid (show rdInts (Z - (j + 1)) (acc ++ [v]) r8 e8 = FI by
                have h1 := hs7.out
                rw [hm7, rdInts] at h1
                simp only [hv] at h1
                rw [show Z - (j + 1) = m7 by omega]; exact h1)
              have HV := Lib.hid hv
              have hRd7 := hR7.e ((E.refl wr).drew)
              have hc2 : wr.cell? ⟨B, 2, none⟩ = some (.slice A1 j c1) := cell_of_row _ _ 2 _ _ _ hbox
              have hj1 : j + 1 ≤ 1099511627776 := by omega
              have HBOX := Lib.hid hbox
              clear hbox hm7 hv hv1 hs7
              go_upto_region 14 with fail
              refine wp_region_any (by kernel_rfl) ?_
              change wpAny _ _ _ _ _ _ _ (World.drew _)
              refine wpAny_take (i := 0) (v := .pointer (some ⟨B, 2, none⟩)) rfl (by kernel_rfl) (by kernel_rfl) (by kernel_rfl) (fun _ _ _ h => h) (Or.inl ⟨by kernel_rfl, fun w => by kernel_rfl⟩) ?_
              refine wpAny_take (i := 2) (v := .pointer (some ⟨g, 0, none⟩)) rfl (by kernel_rfl) (by kernel_rfl) (by kernel_rfl) (fun _ _ _ h => h) (Or.inl ⟨by kernel_rfl, fun w => by kernel_rfl⟩) ?_
              refine wpAny_ready (rs := [1, 3]) (by kernel_rfl) (by simp) ?_
              refine AllReady.cons rfl (fun K hK => ?_) (AllReady.cons rfl (fun K hK => ?_) AllReady.nil)
              · rw [if_pos (by kernel_rfl)]
                go_simp
                refine hK _ _ ?_
                clear hK K
                refine wpAny_ready (rs := [3]) (by kernel_rfl) (by simp) ?_
                refine AllReady.cons rfl (fun K hK => ?_) AllReady.nil
                rw [if_pos (by kernel_rfl)]
                go_simp
                refine (rInt_c _ _ _ _ hRd7).mono ?_
                rintro ee w8 ⟨rfl, hR8, hG8⟩
                rw [HV.out] at hR8 ⊢
                simp only at hR8 ⊢
                obtain ⟨hbox8, hc8, hO8, hz8⟩ := dec_mid hO HBOX.out hgq hBq hG8 (.cells #[.int .i64 v] 3)
                have hc8a := (((E.refl w8).alloc (.cells #[.int .i64 v] 3)).cell (p := ⟨B, 2, none⟩) (blk_lt hbox8)).trans hc8
                have HBOX8 := Lib.hid hbox8
                clear hbox8
                go_wp2_with fail
                refine wpAny_ready (rs := [4]) (by kernel_rfl) (by simp) ?_
                refine AllReady.cons rfl (fun K hK => ?_) AllReady.nil
                rw [if_pos (by kernel_rfl)]
                go_simp
                refine hK _ _ ?_
                clear hK K
                refine wpAny_ready (rs := [5]) (by kernel_rfl) (by simp) ?_
                refine AllReady.cons rfl (fun K hK => ?_) AllReady.nil
                refine step_app1 intTk (by rfl) _ _ (by rfl) wq.heap.size _ _ _ _ (by rfl) hO8 _ v (by rfl) (cell_of_row _ _ 0 _ _ _ (heap_alloc_new _ _)) hwv hj1 hz8 ?_
                intro g9 c9 w9 hO9 hG9 hB9
                obtain ⟨f1, f2, f3, f4, f5, f6⟩ := dec_end hO8 HBOX8.out hgq hBq hG7 hG8 hR8 hO9 hG9 hB9
                refine hK _ _ ?_
                clear hK K
                refine wpAny_take (i := 6) (v := .pointer (some ⟨B, 2, none⟩)) rfl (by kernel_rfl) (by kernel_rfl) (by kernel_rfl) (fun _ _ _ h => h) (Or.inl ⟨by kernel_rfl, fun w => by kernel_rfl⟩) ?_
                refine wpAny_ready (rs := [7]) (by kernel_rfl) (by simp) ?_
                refine AllReady.cons rfl (fun K hK => ?_) AllReady.nil
                rw [if_pos (by kernel_rfl)]
                go_simp
                refine hK _ _ ?_
                clear hK K
                refine wpAny_done (by kernel_rfl) ?_ _
                go_simp
                go_wp2_with fail
                go_roundw
                case rel => exact ⟨j + 1, c9, _, acc ++ [v], r8, e8, by omega, by go_num, f3, f4, f5, f6, show _ = _ from HS8.out⟩
                case measure => simp [intOf]; omega
              · rw [if_pos (by kernel_rfl)]
                go_simp
                refine (rInt_c _ _ _ _ hRd7).mono ?_
                rintro ee w8 ⟨rfl, hR8, hG8⟩
                rw [HV.out] at hR8 ⊢
                simp only at hR8 ⊢
                obtain ⟨hbox8, hc8, hO8, hz8⟩ := dec_mid hO HBOX.out hgq hBq hG8 (.cells #[.int .i64 v] 3)
                have hc8a := (((E.refl w8).alloc (.cells #[.int .i64 v] 3)).cell (p := ⟨B, 2, none⟩) (blk_lt hbox8)).trans hc8
                have HBOX8 := Lib.hid hbox8
                clear hbox8
                go_wp2_with fail
                refine wpAny_ready (rs := [1, 4]) (by kernel_rfl) (by simp) ?_
                refine AllReady.cons rfl (fun K hK => ?_) (AllReady.cons rfl (fun K hK => ?_) AllReady.nil)
                · rw [if_pos (by kernel_rfl)]
                  go_simp
                  refine hK _ _ ?_
                  clear hK K
                  refine wpAny_ready (rs := [4]) (by kernel_rfl) (by simp) ?_
                  refine AllReady.cons rfl (fun K hK => ?_) AllReady.nil
                  rw [if_pos (by kernel_rfl)]
                  go_simp
                  refine hK _ _ ?_
                  clear hK K
                  refine wpAny_ready (rs := [5]) (by kernel_rfl) (by simp) ?_
                  refine AllReady.cons rfl (fun K hK => ?_) AllReady.nil
                  refine step_app1 intTk (by rfl) _ _ (by rfl) wq.heap.size _ _ _ _ (by rfl) hO8 _ v (by rfl) (cell_of_row _ _ 0 _ _ _ (heap_alloc_new _ _)) hwv hj1 hz8 ?_
                  intro g9 c9 w9 hO9 hG9 hB9
                  obtain ⟨f1, f2, f3, f4, f5, f6⟩ := dec_end hO8 HBOX8.out hgq hBq hG7 hG8 hR8 hO9 hG9 hB9
                  refine hK _ _ ?_
                  clear hK K
                  refine wpAny_take (i := 6) (v := .pointer (some ⟨B, 2, none⟩)) rfl (by kernel_rfl) (by kernel_rfl) (by kernel_rfl) (fun _ _ _ h => h) (Or.inl ⟨by kernel_rfl, fun w => by kernel_rfl⟩) ?_
                  refine wpAny_ready (rs := [7]) (by kernel_rfl) (by simp) ?_
                  refine AllReady.cons rfl (fun K hK => ?_) AllReady.nil
                  rw [if_pos (by kernel_rfl)]
                  go_simp
                  refine hK _ _ ?_
                  clear hK K
                  refine wpAny_done (by kernel_rfl) ?_ _
                  go_simp
                  go_wp2_with fail
                  go_roundw
                  case rel => exact ⟨j + 1, c9, _, acc ++ [v], r8, e8, by omega, by go_num, f3, f4, f5, f6, show _ = _ from HS8.out⟩
                  case measure => simp [intOf]; omega
                · rw [if_pos (by kernel_rfl)]
                  go_simp
                  refine hK _ _ ?_
                  clear hK K
                  refine wpAny_ready (rs := [1]) (by kernel_rfl) (by simp) ?_
                  refine AllReady.cons rfl (fun K hK => ?_) AllReady.nil
                  rw [if_pos (by kernel_rfl)]
                  go_simp
                  refine hK _ _ ?_
                  clear hK K
                  refine wpAny_ready (rs := [5]) (by kernel_rfl) (by simp) ?_
                  refine AllReady.cons rfl (fun K hK => ?_) AllReady.nil
                  refine step_app1 intTk (by rfl) _ _ (by rfl) wq.heap.size _ _ _ _ (by rfl) hO8 _ v (by rfl) (cell_of_row _ _ 0 _ _ _ (heap_alloc_new _ _)) hwv hj1 hz8 ?_
                  intro g9 c9 w9 hO9 hG9 hB9
                  obtain ⟨f1, f2, f3, f4, f5, f6⟩ := dec_end hO8 HBOX8.out hgq hBq hG7 hG8 hR8 hO9 hG9 hB9
                  refine hK _ _ ?_
                  clear hK K
                  refine wpAny_take (i := 6) (v := .pointer (some ⟨B, 2, none⟩)) rfl (by kernel_rfl) (by kernel_rfl) (by kernel_rfl) (fun _ _ _ h => h) (Or.inl ⟨by kernel_rfl, fun w => by kernel_rfl⟩) ?_
                  refine wpAny_ready (rs := [7]) (by kernel_rfl) (by simp) ?_
                  refine AllReady.cons rfl (fun K hK => ?_) AllReady.nil
                  rw [if_pos (by kernel_rfl)]
                  go_simp
                  refine hK _ _ ?_
                  clear hK K
                  refine wpAny_done (by kernel_rfl) ?_ _
                  go_simp
                  go_wp2_with fail
                  go_roundw
                  case rel => exact ⟨j + 1, c9, _, acc ++ [v], r8, e8, by omega, by go_num, f3, f4, f5, f6, show _ = _ from HS8.out⟩
                  case measure => simp [intOf]; omega
            · have hjI : ¬ (j : Int) < (Z : Int) := by omega
              have hFI' : FI = (acc, r7, e7) := by
                rw [← hs7.out, show Z - j = 0 by omega]; rfl
              have HS9 := Lib.hid (show rdBids n (N - (k + 1)) ((q ++ [((x, y, acc), A1, j, c1)]).map Prod.fst) r7 e7 = FB by
                have h1 := HS'.out
                rw [hFI'] at h1
                rw [HM.out, List.map_append]
                exact h1)
              have hRr := hR.rd hG7 hg1 HQ
              have hN7 := hO.reads
              have hlo := hO.ltN
              have hbn : 0 < j → ob A1 ≠ ob A' := fun h0 he => by
                obtain ⟨g7, hg7⟩ : ∃ g7, A1 = some ⟨g7, 0, none⟩ := by
                  rcases hO.form with ⟨_, h1, _⟩ | ⟨g7, e7, _⟩
                  · omega
                  · exact ⟨g7, e7⟩
                have h1 := (hlo g7 (by rw [hg7]; rfl)).1
                have h2 := (hR.ltN g7 (by rw [← he, hg7]; rfl)).2
                omega
              have HQ9 : OffG (q ++ [((x, y, acc), A1, j, c1)]) g := (by
                intro p hp h0
                rcases List.mem_append.1 hp with hp | hp
                · exact HQ p hp h0
                · rw [List.mem_singleton] at hp
                  subst hp
                  intro he
                  have := (hlo g he).1
                  omega)
              have hwx := wf_of_i64 x1 x2
              have hwy := wf_of_i64 y1 y2
              obtain ⟨d0, d1, d2⟩ := box_cells (x := (x, y, acc)) hbox
              have hE7 : E w _ := hE.grown hG7 (fun k hk => by injection hk with hk; omega)
              have hle7 := Nat.le_trans hbr hG7.size
              have hw1 : w.heap.size ≤ w1.heap.size := by omega
              clear hbox hFI' hs7 hlo
              go_wp2_with (at_builtin; refine wpList_appBd bidT _ rfl _ _ rfl _ _ _ _ _ rfl hRr ((x, y, acc), A1, j, c1) rfl ⟨hwx, hwy, hN7, hbn⟩ (by omega) hle7 ?_; intro g9 c9 w9 hR9 hG9 hB9 hor9)
              go_roundw
              case rel => exact ⟨_, _, _, _, _, _, ⟨k + 1, by omega, rfl, c9, _, rfl, _, hR9, HQ9, r7, e7, hR7.below hB9 hg1, hE7.up (Below.mono hB9 hw1), Nat.le_trans hle7 hB9.size, show _ = _ from HS9.out⟩, rfl, rfl, rfl, rfl, rfl, by go_num⟩
              case measure => simp [intOf]; omega
      · have hkI : ¬ (k : Int) < (N : Int) := by omega
        have hFB' : FB = some (q.map Prod.fst, r, e) := by rw [← hs.out, show N - k = 0 by omega]; rfl
        obtain ⟨en, hen⟩ : ∃ en, endS r e = en := ⟨_, rfl⟩
        have hFe : F = if en = 0 then (q.map Prod.fst, 0) else ([], 2) := by rw [HFF'.out, hFB', ← hen]
        have HEn := Lib.hid hen
        have HFe := Lib.hid hFe
        have hw1 : w.heap.size ≤ w1.heap.size := by omega
        clear hFB' hen hFe
        go_wp2_with fail
        refine (rEnd_c _ _ _ _ hRd).mono ?_
        rintro ee w' ⟨rfl, rfl⟩
        rw [HEn.out]
        by_cases he0 : en = 0
        · have hd : (en != 0) = false := by simp [he0]
          have HF := Lib.hid (show F = (q.map Prod.fst, 0) by rw [HFe.out, if_pos he0])
          clear he0
          go_wp2_with fail
          go_ret2
          rw [HF.out]
          exact ⟨A', k, c', q, rfl, hR.rebase hw1, rfl, hE⟩
        · have hd : (en != 0) = true := by simpa using he0
          have HF := Lib.hid (show F = ([], 2) by rw [HFe.out, if_neg he0])
          clear he0
          go_wp2_with fail
          go_ret2
          exact RetDec.bad HF.out hE
end Go.Proofs.Ytpbkfpkgbfifaaa
