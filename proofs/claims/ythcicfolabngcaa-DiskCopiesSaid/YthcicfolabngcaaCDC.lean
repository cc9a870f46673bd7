/- Lemmas of the claim, joined: LawDC. No condition. -/
import Derived.Test.YthcicfolabngcaaCDR
/- DiskCopies returns true. -/
namespace Go.Proofs.Ythcicfolabngcaa
open Go.RowKit

def runOps (s : DS) (q : List OpE) : DS := q.foldl (fun s p => (opR s p).2) s
theorem runOps_step (s : DS) {q : List OpE} {i : Nat} {p : OpE} (h : q[i]? = some p) : runOps s (q.take (i + 1)) = (opR (runOps s (q.take i)) p).2 := by
  have hi := (List.getElem?_eq_some_iff.1 h)
  unfold runOps
  rw [List.take_add_one, h, List.foldl_append]
  rfl
set_option maxHeartbeats 4000000 in
set_option maxRecDepth 100000 in
theorem diskCopies_w (x : Int) (A : Option Addr) (n c : Nat) (l : List Int) (A1 : Option Addr) (n1 c1 : Nat) (l1 : List Int) (w : World) (hN : Nums .i64 w A n c l) (hN1 : Nums .i64 w A1 n1 c1 l1) (r1 : -9223372036854775808 ≤ x) (r2 : x ≤ 9223372036854775807) :
    Calls Try.prog 8 #[.int .i64 x, .slice A n c, .slice A1 n1 c1] w (RetK w true) := by
  have HB := Lib.hid (And.intro r1 r2)
  have HN := Lib.hid hN
  have HN1 := Lib.hid hN1
  clear hN hN1 r1 r2
  go_enter Try.func8, Try.ntmps8
  go_upto_region 4 with (go_at_call 22; refine (made_c x A n c l w HN.out HB.out.1 HB.out.2).mono ?_; rintro e w1 ⟨g, gm, k, s, rfl, hk, hR1⟩)
  have HKK := Lib.hid hk
  clear hk
  go_upto_region 5 with (go_at_call 25; refine (hR1.copy 0 rfl (by have := HKK.out; omega)).mono ?_; rintro e w2 ⟨g2, rfl, hR2, _⟩)
  have hR2' : Room w w2 [DiskT g k s, ModT gm s, DiskT g2 k s] := hR2
  clear hR1 hR2
  go_upto_region 7 with (go_at_call 31; refine (same_c hR2' (j := 2) (jm := 1) rfl rfl).mono ?_; rintro e w3 ⟨rfl, hE3⟩)
  have hR3 := hR2'.e hE3
  have HN3 := Lib.hid (HN1.out.e hR3.e_)
  clear hR2' hE3
  go_upto_region 8 with (go_at_call 28; refine (ops_c A1 n1 c1 l1 _ HN3.out).mono ?_; rintro e w4 ⟨A4, n4, c4, q, rfl, hn4, hO4, hE4⟩)
  have hR4 : Room w w4 [DiskT g k s, ModT gm s, DiskT g2 k s, OpsT A4 n4 c4 q] := hR3.newOps hE4 hO4
  have HQ := Lib.hid hO4.1
  have HN4 := Lib.hid hn4
  clear hR3 hO4 hE4
  go_wp2_with fail
  go_loopw [11] (fun t11 wr => ∃ i : Nat, t11 = .int .i64 i ∧ i ≤ n4 ∧ Room w wr [DiskT g k s, ModT gm s, DiskT g2 (k + i) (runOps s (q.take i)), OpsT A4 n4 c4 q]) (fun t11 _ => n4 - (intOf t11).toNat)
  case atStart => exact ⟨0, rfl, Nat.zero_le _, hR4⟩
  case round =>
    clear hR4
    obtain ⟨i, rfl, hi, hR⟩ := hrel
    by_cases hlt : i < n4
    · have dlt : decide (i < n4) = true := by simpa using hlt
      obtain ⟨r, p, hA, hp, hpm⟩ := hR.opget (j := 3) rfl hlt
      subst hA
      obtain ⟨b0, b1, b2, b3, b4⟩ := hR.opcells (j := 3) rfl hp
      have HL := Lib.hid (And.intro hlt (show k + i < 1000000 by have := HKK.out; have := HN4.out; omega))
      have HP := Lib.hid (And.intro hp hpm)
      have hil : (i : Int) < (n4 : Int) := by omega
      clear hp hpm
      go_wp2_with (go_at_call 29; refine (hR.do_ (j := 2) (jo := 3) rfl rfl (by decide) HP.out.2 HL.out.2).mono ?_; rintro e w5 ⟨rfl, hR5⟩)
      have hR5' : Room w w5 [DiskT g k s, ModT gm s, DiskT g2 (k + (i + 1)) (runOps s (q.take (i + 1))), OpsT (some ⟨r, 0, none⟩) n4 c4 q] := by rw [runOps_step s HP.out.1]; exact hR5
      exact ⟨⟨i + 1, by go_num, HL.out.1, hR5'⟩, by have := HL.out.1; simp only [intOf]; omega⟩
    · have dlt : decide (i < n4) = false := by simpa using hlt
      have hq : q.take i = q := List.take_of_length_le (by rw [HQ.out]; omega)
      rw [hq] at hR
      obtain ⟨s5, hs5⟩ : ∃ s5, runOps s q = s5 := ⟨_, rfl⟩
      rw [hs5] at hR
      have HS5 := Lib.hid hs5
      have HK2 := Lib.hid (show k + i ≤ 32 by have := HKK.out; have := HN4.out; omega)
      clear hlt hq hs5
      go_upto_region 14 with (go_at_call 31; refine (same_c hR (j := 0) (jm := 1) rfl rfl).mono ?_; rintro e w5 ⟨rfl, hE5⟩)
      have hR5 := hR.e hE5
      clear hR hE5
      go_upto_region 17 with (go_at_call 25; refine (hR5.copy 0 rfl (by have := HKK.out; omega)).mono ?_; rintro e w6 ⟨g3, rfl, hR6, _⟩)
      have hR6' : Room w w6 [DiskT g k s, ModT gm s, DiskT g2 (k + i) s5, OpsT A4 n4 c4 q, DiskT g3 k s] := hR6
      clear hR5 hR6
      go_wp2_with fail
      go_loopw [13] (fun t13 wr => ∃ i2 : Nat, t13 = .int .i64 i2 ∧ i2 ≤ n4 ∧ Room w wr [DiskT g k s, ModT gm (runOps s (q.take i2)), DiskT g2 (k + i) s5, OpsT A4 n4 c4 q, DiskT g3 (k + i2) (runOps s (q.take i2))]) (fun t13 _ => n4 - (intOf t13).toNat)
      case atStart => exact ⟨0, rfl, Nat.zero_le _, hR6'⟩
      case round =>
        clear hR6'
        obtain ⟨i2, rfl, hi2, hR⟩ := hrel
        by_cases hlt : i2 < n4
        · have dlt2 : decide (i2 < n4) = true := by simpa using hlt
          obtain ⟨r, p, hA, hp, hpm⟩ := hR.opget (j := 3) rfl hlt
          subst hA
          have HL := Lib.hid (And.intro hlt (show k + i2 < 1000000 by have := HKK.out; have := HN4.out; omega))
          have HP := Lib.hid (And.intro hp hpm)
          have hil : (i2 : Int) < (n4 : Int) := by omega
          have HKP := Lib.hid (fun (L : List (World → (Nat → Prop) → Prop)) (W : World) (h : Room w W L) (hj : L[3]? = some (OpsT (some ⟨r, 0, none⟩) n4 c4 q)) => h.opcells (j := 3) hj hp)
          replace hR := hR.e (E.refl wr).drew
          have c0 := HKP.out _ _ hR rfl
          have HST := Lib.hid (runOps_step s hp)
          generalize runOps s (q.take i2) = s6 at *
          clear hp hpm
          go_upto_region 20 with fail
          go_cut [76] (fun t76 wx => t76 = .bool false ∧ Room w wx [DiskT g k s, ModT gm (opR s6 p).2, DiskT g2 (k + i) s5, OpsT (some ⟨r, 0, none⟩) n4 c4 q, DiskT g3 (k + i2 + 1) (opR s6 p).2])
          case first =>
            go_region_held3 (fun w' => w'.cell? ⟨r, i2 * 5, none⟩ = some (.int .i64 p.kind) ∧ w'.cell? ⟨r, i2 * 5 + 1, none⟩ = some (.int .i64 p.file) ∧ w'.cell? ⟨r, i2 * 5 + 2, none⟩ = some (.int .i64 p.n) ∧ w'.cell? ⟨r, i2 * 5 + 3, none⟩ = some (.slice p.AB p.nB p.cB) ∧ w'.cell? ⟨r, i2 * 5 + 4, none⟩ = some (.slice p.AK p.nK p.cK)) (exact HKP.out _ _ hR rfl)
              (first
                | (go_at_call 29; refine (hR.do_ (j := 4) (jo := 3) rfl rfl (by decide) HP.out.2 HL.out.2).mono ?_; rintro e wn ⟨rfl, hRn⟩; replace hR := hRn)
                | (go_at_call 30; refine (hR.mdo (j := 1) (jo := 3) rfl rfl (by decide) HP.out.2).mono ?_; rintro e wn ⟨rfl, hRn⟩; replace hR := hRn))
            all_goals (
              go_wp2_with fail
              go_meet
              exact ⟨rfl, hR⟩)
          case rest =>
            obtain ⟨rfl, hR5⟩ := hcut
            rw [← HST.out] at hR5
            go_wp2_with fail
            exact ⟨⟨i2 + 1, by go_num, HL.out.1, hR5⟩, by have := HL.out.1; simp only [intOf]; omega⟩
        · have dlt2 : decide (i2 < n4) = false := by simpa using hlt
          have hq : q.take i2 = q := List.take_of_length_le (by rw [HQ.out]; omega)
          rw [hq, HS5.out] at hR
          clear hlt hq
          have HS1 := Lib.hid (fun wn (hE : E wr wn) => (same_c (hR.e hE) (j := 4) (jm := 1) rfl rfl).mono fun e w' h => show e = .returned (.bool true) ∧ E wr w' from ⟨h.1, hE.trans h.2⟩)
          have HS2 := Lib.hid (fun wn (hE : E wr wn) => (same_c (hR.e hE) (j := 2) (jm := 1) rfl rfl).mono fun e w' h => show e = .returned (.bool true) ∧ E wr w' from ⟨h.1, hE.trans h.2⟩)
          have HE := Lib.hid hR.e_
          clear hR
          have hEa := E.refl wr
          unfold ptrV at HS1 HS2
          go_wp2_with (first
            | (go_at_call 31; (with_reducible refine (HS1.out _ hEa).mono ?_); rintro e wn ⟨rfl, hEn⟩; replace hEa := hEn)
            | (go_at_call 31; (with_reducible refine (HS2.out _ hEa).mono ?_); rintro e wn ⟨rfl, hEn⟩; replace hEa := hEn)
            | (go_at_call 19; refine (lives_c _).mono ?_; rintro e w9 ⟨rfl, hE9⟩; replace hEa := hEa.trans hE9))
          go_ret
          exact ⟨rfl, HE.out.trans hEa⟩
end Go.Proofs.Ythcicfolabngcaa
