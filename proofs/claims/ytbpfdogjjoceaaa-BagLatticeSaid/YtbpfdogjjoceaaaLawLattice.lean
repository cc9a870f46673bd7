/- The walk of BagLattice. -/
import Derived.Test.YtbpfdogjjoceaaaEV
namespace Go.Proofs.Ytbpfdogjjoceaaa
open Go.RowKit

theorem cov_t {a b : List Int} (h : fitB a b = true) (hb : both subOk a b) : covB a b = true := by simp only [covB, decide_eq_true_eq]; exact (covers_iff h).2 hb
theorem cov_iff {a b : List Int} (h : fitB a b = true) : covB a b = true ↔ both subOk a b := by simp only [covB, decide_eq_true_eq]; exact covers_iff h

theorem lat_bag {a b : List Int} (h : fitB a b = true) : isBagB (joinS a b) = true ∧ isBagB (meetS a b) = true ∧ (joinS a b).length = b.length ∧ (meetS a b).length = b.length := by
  rw [joinS_eq h, meetS_eq h]
  refine ⟨isBag_zip h (both_mono (bounds h) fun x y => by omega), isBag_zip h (both_mono (bounds h) fun x y => by omega), zip_len (fit_len h), zip_len (fit_len h)⟩

structure LatFacts (a b c : List Int) : Prop where
  v1 : covB (joinS a b) a = true
  v2 : covB (joinS a b) b = true
  v3 : covB a (meetS a b) = true
  v4 : covB b (meetS a b) = true
  v5 : covB (joinS (joinS a b) c) (joinS a b) = true
  v6 : covB (meetS a b) (meetS (meetS a b) c) = true
  v7 : covB c a = true → covB c b = true → covB c (joinS a b) = true
  v8 : covB a c = true → covB b c = true → covB (meetS a b) c = true
  s1 : sameB (joinS a a) a = true
  s2 : sameB (meetS a (joinS a b)) a = true
  s3 : sameB (joinS a (meetS a b)) a = true

theorem latFacts {a b c : List Int} (hab : a.length = b.length) (hbc : b.length = c.length) (ha : isBagB a = true) (hb : isBagB b = true) (hc : isBagB c = true) : LatFacts a b c := by
  have fab : fitB a b = true := fitB_iff.2 ⟨hab, ha, hb⟩
  have faa : fitB a a = true := fitB_iff.2 ⟨rfl, ha, ha⟩
  obtain ⟨j1, m1, jl, ml⟩ := lat_bag fab
  have fja : fitB (joinS a b) a = true := fitB_iff.2 ⟨by omega, j1, ha⟩
  have fjb : fitB (joinS a b) b = true := fitB_iff.2 ⟨by omega, j1, hb⟩
  have fam : fitB a (meetS a b) = true := fitB_iff.2 ⟨by omega, ha, m1⟩
  have fbm : fitB b (meetS a b) = true := fitB_iff.2 ⟨by omega, hb, m1⟩
  have fjc : fitB (joinS a b) c = true := fitB_iff.2 ⟨by omega, j1, hc⟩
  have fmc : fitB (meetS a b) c = true := fitB_iff.2 ⟨by omega, m1, hc⟩
  have faj : fitB a (joinS a b) = true := fitB_iff.2 ⟨by omega, ha, j1⟩
  obtain ⟨j2, _, j2l, _⟩ := lat_bag fjc
  obtain ⟨_, m2, _, m2l⟩ := lat_bag fmc
  have fhj : fitB (joinS (joinS a b) c) (joinS a b) = true := fitB_iff.2 ⟨by omega, j2, j1⟩
  have fml : fitB (meetS a b) (meetS (meetS a b) c) = true := fitB_iff.2 ⟨by omega, m1, m2⟩
  have fca : fitB c a = true := fitB_iff.2 ⟨by omega, hc, ha⟩
  have fcb : fitB c b = true := fitB_iff.2 ⟨by omega, hc, hb⟩
  have fcj : fitB c (joinS a b) = true := fitB_iff.2 ⟨by omega, hc, j1⟩
  have fac : fitB a c = true := fitB_iff.2 ⟨by omega, ha, hc⟩
  have fbc : fitB b c = true := fitB_iff.2 ⟨by omega, hb, hc⟩
  refine ⟨cov_t fja ?_, cov_t fjb ?_, cov_t fam ?_, cov_t fbm ?_, cov_t fhj ?_, cov_t fml ?_, ?_, ?_, sameB_eq ?_, sameB_eq ?_, sameB_eq ?_⟩
  · rw [joinS_eq fab]; intro i z y hz hy
    obtain ⟨x', y', hx, hy', rfl⟩ := zip_get hz
    rw [hy] at hx; injection hx with hx; unfold subOk; omega
  · rw [joinS_eq fab]; intro i z y hz hy
    obtain ⟨x', y', hx, hy', rfl⟩ := zip_get hz
    rw [hy] at hy'; injection hy' with hy'; unfold subOk; omega
  · rw [meetS_eq fab]; intro i y z hy hz
    obtain ⟨x', y', hx, hy', rfl⟩ := zip_get hz
    rw [hy] at hx; injection hx with hx; unfold subOk; omega
  · rw [meetS_eq fab]; intro i y z hy hz
    obtain ⟨x', y', hx, hy', rfl⟩ := zip_get hz
    rw [hy] at hy'; injection hy' with hy'; unfold subOk; omega
  · rw [joinS_eq fjc]; intro i z y hz hy
    obtain ⟨x', y', hx, hy', rfl⟩ := zip_get hz
    rw [hy] at hx; injection hx with hx; unfold subOk; omega
  · rw [meetS_eq fmc]; intro i y z hy hz
    obtain ⟨x', y', hx, hy', rfl⟩ := zip_get hz
    rw [hy] at hx; injection hx with hx; unfold subOk; omega
  · rw [cov_iff fca, cov_iff fcb, cov_iff fcj, joinS_eq fab]
    intro h1 h2 i z y hz hy
    obtain ⟨x', y', hx, hy', rfl⟩ := zip_get hy
    have a1 := h1 i z x' hz hx
    have a2 := h2 i z y' hz hy'
    unfold subOk at *; omega
  · rw [cov_iff fac, cov_iff fbc, cov_iff fmc, meetS_eq fab]
    intro h1 h2 i z y hz hy
    obtain ⟨x', y', hx, hy', rfl⟩ := zip_get hz
    have a1 := h1 i x' y hx hy
    have a2 := h2 i y' y hy' hy
    unfold subOk at *; omega
  · rw [joinS_eq faa]
    refine ext3 (zip_len rfl) rfl fun i z y hz hy => ?_
    obtain ⟨x', y', hx, hy', rfl⟩ := zip_get hz
    rw [hy] at hx hy'; injection hx with hx; injection hy' with hy'; omega
  · rw [meetS_eq faj, joinS_eq fab]
    refine ext3 (n := a.length) (by rw [zip_len (by rw [zip_len hab]; exact hab), zip_len hab]; omega) rfl fun i z y hz hy => ?_
    obtain ⟨x', y', hx, hy', rfl⟩ := zip_get hz
    obtain ⟨x2, y2, hx2, hy2, rfl⟩ := zip_get hy'
    rw [hy] at hx hx2; injection hx with hx; injection hx2 with hx2; omega
  · rw [joinS_eq fam, meetS_eq fab]
    refine ext3 (n := a.length) (by rw [zip_len (by rw [zip_len hab]; exact hab), zip_len hab]; omega) rfl fun i z y hz hy => ?_
    obtain ⟨x', y', hx, hy', rfl⟩ := zip_get hz
    obtain ⟨x2, y2, hx2, hy2, rfl⟩ := zip_get hy'
    rw [hy] at hx hx2; injection hx with hx; injection hx2 with hx2; omega

set_option maxHeartbeats 4000000 in
set_option maxRecDepth 100000 in
theorem bagLattice_w (N : Int) (A : Option Addr) (n c : Nat) (l : List Int) (w : World) (h : Nums .i64 w A n c l) (hN1 : -9223372036854775808 ≤ N) (hN2 : N ≤ 9223372036854775807) :
    Calls Try.prog 7 #[.int .i64 N, .slice A n c] w (RetB w true) := by
  obtain ⟨k, hk⟩ : ∃ k : Nat, N % 8 = k := ⟨(N % 8).toNat, by omega⟩
  have hk8 : k < 8 := by omega
  have HK := Lib.hid hk
  clear hk
  have HL := Lib.hid (latFacts (a := bagL k l 0) (b := bagL k l 3) (c := bagL k l 6) (by simp [bagL_len]) (by simp [bagL_len]) (bagL_bag _ _ _ (by omega)) (bagL_bag _ _ _ (by omega)) (bagL_bag _ _ _ (by omega)))
  go_enter Try.func7, Try.ntmps7
  go_wp2_with fail
  refine (around_c N 8 _ hN1 hN2 (by omega) (by omega)).mono ?_
  rintro e w' ⟨rfl, rfl⟩
  rw [HK.out]
  go_wp2_with fail
  refine (bag_c k 0 _ _ _ _ _ h (by omega) (by omega)).mono ?_
  rintro e w1 ⟨A1, n1, c1, rfl, hO1, hE1⟩
  replace h := h.e hE1
  go_wp2_with fail
  refine (bag_c k 3 _ _ _ _ _ h (by omega) (by omega)).mono ?_
  rintro e w2 ⟨A2, n2, c2, rfl, hO2, hE2⟩
  replace h := h.e hE2
  go_wp2_with fail
  refine (bag_c k 6 _ _ _ _ _ h (by omega) (by omega)).mono ?_
  rintro e w3 ⟨A3, n3, c3, rfl, hO3, hE3⟩
  have env := (((Env.nil w3).add ((hO1.reads.e hE2).e hE3)).add (hO2.reads.e hE3)).add hO3.reads
  have ext := (hE1.trans hE2).trans hE3
  clear hO1 hO2 hO3 hE1 hE2 hE3 h HK
  generalize bagL k l 0 = a at *
  generalize bagL k l 3 = b at *
  generalize bagL k l 6 = d at *
  obtain ⟨v1, v2, v3, v4, v5, v6, v7, v8, s1, s2, s3⟩ := HL.out
  have H7 := Lib.hid v7
  have H8 := Lib.hid v8
  clear v7 v8 HL
  cases x1 : covB d a
  all_goals cases x2 : covB d b
  all_goals cases x3 : covB a d
  all_goals cases x4 : covB b d
  all_goals
    (try have x5 := H7.out x1 x2)
    (try have x6 := H8.out x3 x4)
    clear H7 H8
    go_wp2_with (first
      | (go_at_call 21; refine (covers_e _ _ _ _ _ _ _ _ _ (env.at (by first | exact .head _ | exact .tail _ (.head _) | exact .tail _ (.tail _ (.head _)) | exact .tail _ (.tail _ (.tail _ (.head _))) | exact .tail _ (.tail _ (.tail _ (.tail _ (.head _)))) | exact .tail _ (.tail _ (.tail _ (.tail _ (.tail _ (.head _))))) | exact .tail _ (.tail _ (.tail _ (.tail _ (.tail _ (.tail _ (.head _)))))) | exact .tail _ (.tail _ (.tail _ (.tail _ (.tail _ (.tail _ (.tail _ (.head _))))))) | exact .tail _ (.tail _ (.tail _ (.tail _ (.tail _ (.tail _ (.tail _ (.tail _ (.head _)))))))) | exact .tail _ (.tail _ (.tail _ (.tail _ (.tail _ (.tail _ (.tail _ (.tail _ (.tail _ (.head _))))))))) | exact .tail _ (.tail _ (.tail _ (.tail _ (.tail _ (.tail _ (.tail _ (.tail _ (.tail _ (.tail _ (.head _)))))))))) | exact .tail _ (.tail _ (.tail _ (.tail _ (.tail _ (.tail _ (.tail _ (.tail _ (.tail _ (.tail _ (.tail _ (.head _))))))))))))) (env.at (by first | exact .head _ | exact .tail _ (.head _) | exact .tail _ (.tail _ (.head _)) | exact .tail _ (.tail _ (.tail _ (.head _))) | exact .tail _ (.tail _ (.tail _ (.tail _ (.head _)))) | exact .tail _ (.tail _ (.tail _ (.tail _ (.tail _ (.head _))))) | exact .tail _ (.tail _ (.tail _ (.tail _ (.tail _ (.tail _ (.head _)))))) | exact .tail _ (.tail _ (.tail _ (.tail _ (.tail _ (.tail _ (.tail _ (.head _))))))) | exact .tail _ (.tail _ (.tail _ (.tail _ (.tail _ (.tail _ (.tail _ (.tail _ (.head _)))))))) | exact .tail _ (.tail _ (.tail _ (.tail _ (.tail _ (.tail _ (.tail _ (.tail _ (.tail _ (.head _))))))))) | exact .tail _ (.tail _ (.tail _ (.tail _ (.tail _ (.tail _ (.tail _ (.tail _ (.tail _ (.tail _ (.head _)))))))))) | exact .tail _ (.tail _ (.tail _ (.tail _ (.tail _ (.tail _ (.tail _ (.tail _ (.tail _ (.tail _ (.tail _ (.head _)))))))))))))).mono ?_; rintro e w' ⟨rfl, hE⟩; replace env := env.e hE; replace ext := ext.trans hE; clear hE)
      | (go_at_call 16; refine (same_e _ _ _ _ _ _ _ _ _ (env.at (by first | exact .head _ | exact .tail _ (.head _) | exact .tail _ (.tail _ (.head _)) | exact .tail _ (.tail _ (.tail _ (.head _))) | exact .tail _ (.tail _ (.tail _ (.tail _ (.head _)))) | exact .tail _ (.tail _ (.tail _ (.tail _ (.tail _ (.head _))))) | exact .tail _ (.tail _ (.tail _ (.tail _ (.tail _ (.tail _ (.head _)))))) | exact .tail _ (.tail _ (.tail _ (.tail _ (.tail _ (.tail _ (.tail _ (.head _))))))) | exact .tail _ (.tail _ (.tail _ (.tail _ (.tail _ (.tail _ (.tail _ (.tail _ (.head _)))))))) | exact .tail _ (.tail _ (.tail _ (.tail _ (.tail _ (.tail _ (.tail _ (.tail _ (.tail _ (.head _))))))))) | exact .tail _ (.tail _ (.tail _ (.tail _ (.tail _ (.tail _ (.tail _ (.tail _ (.tail _ (.tail _ (.head _)))))))))) | exact .tail _ (.tail _ (.tail _ (.tail _ (.tail _ (.tail _ (.tail _ (.tail _ (.tail _ (.tail _ (.tail _ (.head _))))))))))))) (env.at (by first | exact .head _ | exact .tail _ (.head _) | exact .tail _ (.tail _ (.head _)) | exact .tail _ (.tail _ (.tail _ (.head _))) | exact .tail _ (.tail _ (.tail _ (.tail _ (.head _)))) | exact .tail _ (.tail _ (.tail _ (.tail _ (.tail _ (.head _))))) | exact .tail _ (.tail _ (.tail _ (.tail _ (.tail _ (.tail _ (.head _)))))) | exact .tail _ (.tail _ (.tail _ (.tail _ (.tail _ (.tail _ (.tail _ (.head _))))))) | exact .tail _ (.tail _ (.tail _ (.tail _ (.tail _ (.tail _ (.tail _ (.tail _ (.head _)))))))) | exact .tail _ (.tail _ (.tail _ (.tail _ (.tail _ (.tail _ (.tail _ (.tail _ (.tail _ (.head _))))))))) | exact .tail _ (.tail _ (.tail _ (.tail _ (.tail _ (.tail _ (.tail _ (.tail _ (.tail _ (.tail _ (.head _)))))))))) | exact .tail _ (.tail _ (.tail _ (.tail _ (.tail _ (.tail _ (.tail _ (.tail _ (.tail _ (.tail _ (.tail _ (.head _)))))))))))))).mono ?_; rintro e w' ⟨rfl, hE⟩; replace env := env.e hE; replace ext := ext.trans hE; clear hE)
      | (go_at_call 32; refine (join_c _ _ _ _ _ _ _ _ _ (env.at (by first | exact .head _ | exact .tail _ (.head _) | exact .tail _ (.tail _ (.head _)) | exact .tail _ (.tail _ (.tail _ (.head _))) | exact .tail _ (.tail _ (.tail _ (.tail _ (.head _)))) | exact .tail _ (.tail _ (.tail _ (.tail _ (.tail _ (.head _))))) | exact .tail _ (.tail _ (.tail _ (.tail _ (.tail _ (.tail _ (.head _)))))) | exact .tail _ (.tail _ (.tail _ (.tail _ (.tail _ (.tail _ (.tail _ (.head _))))))) | exact .tail _ (.tail _ (.tail _ (.tail _ (.tail _ (.tail _ (.tail _ (.tail _ (.head _)))))))) | exact .tail _ (.tail _ (.tail _ (.tail _ (.tail _ (.tail _ (.tail _ (.tail _ (.tail _ (.head _))))))))) | exact .tail _ (.tail _ (.tail _ (.tail _ (.tail _ (.tail _ (.tail _ (.tail _ (.tail _ (.tail _ (.head _)))))))))) | exact .tail _ (.tail _ (.tail _ (.tail _ (.tail _ (.tail _ (.tail _ (.tail _ (.tail _ (.tail _ (.tail _ (.head _))))))))))))) (env.at (by first | exact .head _ | exact .tail _ (.head _) | exact .tail _ (.tail _ (.head _)) | exact .tail _ (.tail _ (.tail _ (.head _))) | exact .tail _ (.tail _ (.tail _ (.tail _ (.head _)))) | exact .tail _ (.tail _ (.tail _ (.tail _ (.tail _ (.head _))))) | exact .tail _ (.tail _ (.tail _ (.tail _ (.tail _ (.tail _ (.head _)))))) | exact .tail _ (.tail _ (.tail _ (.tail _ (.tail _ (.tail _ (.tail _ (.head _))))))) | exact .tail _ (.tail _ (.tail _ (.tail _ (.tail _ (.tail _ (.tail _ (.tail _ (.head _)))))))) | exact .tail _ (.tail _ (.tail _ (.tail _ (.tail _ (.tail _ (.tail _ (.tail _ (.tail _ (.head _))))))))) | exact .tail _ (.tail _ (.tail _ (.tail _ (.tail _ (.tail _ (.tail _ (.tail _ (.tail _ (.tail _ (.head _)))))))))) | exact .tail _ (.tail _ (.tail _ (.tail _ (.tail _ (.tail _ (.tail _ (.tail _ (.tail _ (.tail _ (.tail _ (.head _)))))))))))))).mono ?_; rintro e w' ⟨A', n', c', rfl, hO, hE⟩; replace env := (env.e hE).add hO.reads; replace ext := ext.trans hE; clear hE hO)
      | (go_at_call 33; refine (meet_c _ _ _ _ _ _ _ _ _ (env.at (by first | exact .head _ | exact .tail _ (.head _) | exact .tail _ (.tail _ (.head _)) | exact .tail _ (.tail _ (.tail _ (.head _))) | exact .tail _ (.tail _ (.tail _ (.tail _ (.head _)))) | exact .tail _ (.tail _ (.tail _ (.tail _ (.tail _ (.head _))))) | exact .tail _ (.tail _ (.tail _ (.tail _ (.tail _ (.tail _ (.head _)))))) | exact .tail _ (.tail _ (.tail _ (.tail _ (.tail _ (.tail _ (.tail _ (.head _))))))) | exact .tail _ (.tail _ (.tail _ (.tail _ (.tail _ (.tail _ (.tail _ (.tail _ (.head _)))))))) | exact .tail _ (.tail _ (.tail _ (.tail _ (.tail _ (.tail _ (.tail _ (.tail _ (.tail _ (.head _))))))))) | exact .tail _ (.tail _ (.tail _ (.tail _ (.tail _ (.tail _ (.tail _ (.tail _ (.tail _ (.tail _ (.head _)))))))))) | exact .tail _ (.tail _ (.tail _ (.tail _ (.tail _ (.tail _ (.tail _ (.tail _ (.tail _ (.tail _ (.tail _ (.head _))))))))))))) (env.at (by first | exact .head _ | exact .tail _ (.head _) | exact .tail _ (.tail _ (.head _)) | exact .tail _ (.tail _ (.tail _ (.head _))) | exact .tail _ (.tail _ (.tail _ (.tail _ (.head _)))) | exact .tail _ (.tail _ (.tail _ (.tail _ (.tail _ (.head _))))) | exact .tail _ (.tail _ (.tail _ (.tail _ (.tail _ (.tail _ (.head _)))))) | exact .tail _ (.tail _ (.tail _ (.tail _ (.tail _ (.tail _ (.tail _ (.head _))))))) | exact .tail _ (.tail _ (.tail _ (.tail _ (.tail _ (.tail _ (.tail _ (.tail _ (.head _)))))))) | exact .tail _ (.tail _ (.tail _ (.tail _ (.tail _ (.tail _ (.tail _ (.tail _ (.tail _ (.head _))))))))) | exact .tail _ (.tail _ (.tail _ (.tail _ (.tail _ (.tail _ (.tail _ (.tail _ (.tail _ (.tail _ (.head _)))))))))) | exact .tail _ (.tail _ (.tail _ (.tail _ (.tail _ (.tail _ (.tail _ (.tail _ (.tail _ (.tail _ (.tail _ (.head _)))))))))))))).mono ?_; rintro e w' ⟨A', n', c', rfl, hO, hE⟩; replace env := (env.e hE).add hO.reads; replace ext := ext.trans hE; clear hE hO)
      | (go_at_call 19; refine (lives_c _).mono ?_; rintro e w' ⟨rfl, hE⟩; replace env := env.e hE; replace ext := ext.trans hE; clear hE))
    go_ret
    exact ⟨rfl, ext⟩
end Go.Proofs.Ytbpfdogjjoceaaa
