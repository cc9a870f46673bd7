/- Lemmas of the claim, joined: LawDR. No condition. -/
import Derived.Test.YthcicfolabngcaaJD
/- DiskRuns returns true. -/
namespace Go.Proofs.Ythcicfolabngcaa
open Go.RowKit

set_option maxHeartbeats 4000000 in
set_option maxRecDepth 100000 in
theorem diskRuns_w (x : Int) (A : Option Addr) (n c : Nat) (l : List Int) (w : World) (hN : Nums .i64 w A n c l) (r1 : -9223372036854775808 ≤ x) (r2 : x ≤ 9223372036854775807) :
    Calls Try.prog 6 #[.int .i64 x, .slice A n c] w (RetK w true) := by
  have HB := Lib.hid (And.intro r1 r2)
  obtain ⟨rk, hk1, hk2, hk3, hk4⟩ := room_k x
  have HK := Lib.hid hk4
  have HN := Lib.hid hN
  clear hN r1 r2 hk4
  go_enter Try.func6, Try.ntmps6
  go_upto_region 2 with (go_at_call 12; refine (around1_c x 40 _ HB.out.1 HB.out.2 (by decide) (by decide)).mono ?_; rintro e w' ⟨rfl, hw⟩; rw [← hw]; clear hw)
  have HK3 := Lib.hid hk3
  clear hk3
  go_upto_region 5 with (go_at_call 11; refine (room_new (Room.nil w) rk HK.out.1 HK.out.2).mono ?_; rintro e w1 ⟨g, rfl, hR, hE1⟩)
  have hR1 : Room w w1 [DiskT g 0 (newS rk)] := hR
  clear hR hE1
  go_upto_region 6 with (go_at_call 27; refine (room_mnew hR1 rk HK.out).mono ?_; rintro e w2 ⟨gm, rfl, hR2, hE2⟩)
  have hR2' : Room w w2 [DiskT g 0 (newS rk), ModT gm (newS rk)] := hR2
  have HN2 := Lib.hid (HN.out.e hR2.e_)
  clear hR1 hR2 hE2
  go_upto_region 7 with (go_at_call 28; refine (ops_c A n c l _ HN2.out).mono ?_; rintro e w3 ⟨A3, n3, c3, q, rfl, hn3, hO3, hE3⟩)
  have hR3 : Room w w3 [DiskT g 0 (newS rk), ModT gm (newS rk), OpsT A3 n3 c3 q] := hR2'.newOps hE3 hO3
  clear hR2' hO3 hE3
  go_wp2_with fail
  go_loopw [10] (fun t11 wr => ∃ (i : Nat) (s : DS), t11 = .int .i64 i ∧ i ≤ n3 ∧ Room w wr [DiskT g i s, ModT gm s, OpsT A3 n3 c3 q]) (fun t11 _ => n3 - (intOf t11).toNat)
  case atStart => exact ⟨0, _, rfl, Nat.zero_le _, hR3⟩
  case round =>
    clear hR3
    obtain ⟨i, s, rfl, hi, hR⟩ := hrel
    by_cases hlt : i < n3
    · have dlt : decide (i < n3) = true := by simpa using hlt
      obtain ⟨r, p, hA, hp, hpm⟩ := hR.opget (j := 2) rfl hlt
      subst hA
      have HL := Lib.hid (And.intro hlt (show i < 1000000 by omega))
      have HP := Lib.hid (And.intro hp hpm)
      have hil : (i : Int) < (n3 : Int) := by omega
      have HKP := Lib.hid (fun (L : List (World → (Nat → Prop) → Prop)) (W : World) (h : Room w W L) (hj : L[2]? = some (OpsT (some ⟨r, 0, none⟩) n3 c3 q)) => h.opcells (j := 2) hj hp)
      replace hR := hR.e (E.refl wr).drew
      have c0 := HKP.out _ _ hR rfl
      clear hp hpm
      go_upto_region 10 with fail
      go_cut [53] (fun t53 wx => t53 = .bool false ∧ Room w wx [DiskT g (i + 1) (opR s p).2, ModT gm (opR s p).2, OpsT (some ⟨r, 0, none⟩) n3 c3 q])
      case first =>
        go_region_held3 (fun w' => w'.cell? ⟨r, i * 5, none⟩ = some (.int .i64 p.kind) ∧ w'.cell? ⟨r, i * 5 + 1, none⟩ = some (.int .i64 p.file) ∧ w'.cell? ⟨r, i * 5 + 2, none⟩ = some (.int .i64 p.n) ∧ w'.cell? ⟨r, i * 5 + 3, none⟩ = some (.slice p.AB p.nB p.cB) ∧ w'.cell? ⟨r, i * 5 + 4, none⟩ = some (.slice p.AK p.nK p.cK)) (exact HKP.out _ _ hR rfl)
          (first
            | (go_at_call 29; refine (hR.do_ (j := 0) (jo := 2) rfl rfl (by decide) HP.out.2 HL.out.2).mono ?_; rintro e wn ⟨rfl, hRn⟩; replace hR := hRn)
            | (go_at_call 30; refine (hR.mdo (j := 1) (jo := 2) rfl rfl (by decide) HP.out.2).mono ?_; rintro e wn ⟨rfl, hRn⟩; replace hR := hRn)
            | (go_at_call 31; refine (same_c hR (j := 0) (jm := 1) rfl rfl).mono ?_; rintro e wn ⟨rfl, hEn⟩; replace hR := hR.e hEn))
        all_goals (
          go_wp2_with fail
          go_meet
          exact ⟨rfl, hR⟩)
      case rest =>
        obtain ⟨rfl, hR5⟩ := hcut
        go_wp2_with fail
        exact ⟨⟨i + 1, (opR s p).2, by go_num, HL.out.1, hR5⟩, by have := HL.out.1; simp only [intOf]; omega⟩
    · have dlt : decide (i < n3) = false := by simpa using hlt
      clear hlt
      go_wp2_with (go_at_call 19; refine (lives_c _).mono ?_; rintro e w9 ⟨rfl, hE9⟩)
      go_ret
      exact ⟨rfl, hR.e_.trans hE9⟩
end Go.Proofs.Ythcicfolabngcaa
