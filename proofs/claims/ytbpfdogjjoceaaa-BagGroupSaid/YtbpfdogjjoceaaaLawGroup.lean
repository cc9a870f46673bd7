/- The walk of BagGroup. -/
import Derived.Test.YtbpfdogjjoceaaaEV
namespace Go.Proofs.Ytbpfdogjjoceaaa
open Go.RowKit

def GroupFacts (a b c : List Int) : Prop :=
  (addS b a = addS a b ∧ (addS a b).2 = 4) ∨
  (addS b a = addS a b ∧ (addS a b).2 = 0 ∧ (subS (addS a b).1 b).2 = 0 ∧ (addS (joinS a b) (meetS a b)).2 = 0 ∧ (subS (addS a b).1 b).1 = a ∧ (addS (joinS a b) (meetS a b)).1 = (addS a b).1 ∧
    (((addS b c).2 = 4 ∧ (addS (addS a b).1 c).2 = 4) ∨ ((addS b c).2 = 0 ∧ addS (addS a b).1 c = addS a (addS b c).1)))

theorem both_swap {p : Int → Int → Prop} {a b : List Int} : both p a b ↔ both (fun x y => p y x) b a := ⟨fun h i x y hx hy => h i y x hy hx, fun h i x y hx hy => h i y x hy hx⟩

theorem groupFacts {a b c : List Int} (hab : a.length = b.length) (hbc : b.length = c.length) (ha : isBagB a = true) (hb : isBagB b = true) (hc : isBagB c = true) : GroupFacts a b c := by
  have fab : fitB a b = true := fitB_iff.2 ⟨hab, ha, hb⟩
  have fba : fitB b a = true := fitB_iff.2 ⟨hab.symm, hb, ha⟩
  have fbc : fitB b c = true := fitB_iff.2 ⟨hbc, hb, hc⟩
  by_cases h1 : both addOk a b
  · right
    have h1' : both addOk b a := fun i x y hx hy => by have := h1 i y x hy hx; unfold addOk at *; omega
    have e1 := addS_ok fab h1
    have e2 := addS_ok fba h1'
    have hcomm : List.zipWith (· + ·) b a = List.zipWith (· + ·) a b := by
      refine ext3 (n := b.length) (by rw [zip_len hab.symm]; exact hab) (zip_len hab) fun i x y hx hy => ?_
      obtain ⟨x1, y1, p1, q1, rfl⟩ := zip_get hx
      obtain ⟨x2, y2, p2, q2, rfl⟩ := zip_get hy
      rw [p1] at q2; rw [q1] at p2; injection q2; injection p2; omega
    have hz : isBagB (List.zipWith (· + ·) a b) = true := isBag_zip fab fun i x y hx hy => by
      have b1 := bounds fab i x y hx hy
      have b2 := h1 i x y hx hy
      unfold addOk at b2; omega
    have hzl := zip_len (g := (· + ·)) hab
    have fzb : fitB (List.zipWith (· + ·) a b) b = true := fitB_iff.2 ⟨hzl, hz, hb⟩
    have hsb : both subOk (List.zipWith (· + ·) a b) b := fun i x y hx hy => by
      obtain ⟨x1, y1, p1, q1, rfl⟩ := zip_get hx
      rw [hy] at q1; injection q1 with q1
      have := bounds fab i x1 y p1 hy
      unfold subOk; omega
    have e3 := subS_ok fzb hsb
    have hj : isBagB (joinS a b) = true := by rw [joinS_eq fab]; exact isBag_zip fab (both_mono (bounds fab) fun x y => by omega)
    have hm : isBagB (meetS a b) = true := by rw [meetS_eq fab]; exact isBag_zip fab (both_mono (bounds fab) fun x y => by omega)
    have fjm : fitB (joinS a b) (meetS a b) = true := fitB_iff.2 ⟨by rw [joinS_eq fab, meetS_eq fab, zip_len hab, zip_len hab], hj, hm⟩
    have hjm : both addOk (joinS a b) (meetS a b) := by
      rw [joinS_eq fab, meetS_eq fab]
      intro i x y hx hy
      obtain ⟨x1, y1, p1, q1, rfl⟩ := zip_get hx
      obtain ⟨x2, y2, p2, q2, rfl⟩ := zip_get hy
      rw [p1] at p2; rw [q1] at q2; injection p2 with p2; injection q2 with q2
      have := h1 i x1 y1 p1 q1
      unfold addOk at *; omega
    have e4 := addS_ok fjm hjm
    refine ⟨by rw [e1, e2, hcomm], by rw [e1], by rw [e1, e3], by rw [e4], ?_, ?_, ?_⟩
    · rw [e1, e3]
      refine ext3 (n := b.length) (zip_len hzl) hab fun i x y hx hy => ?_
      obtain ⟨x1, y1, p1, q1, rfl⟩ := zip_get hx
      obtain ⟨x2, y2, p2, q2, rfl⟩ := zip_get p1
      rw [hy] at p2; rw [q1] at q2; injection p2; injection q2; omega
    · rw [e1, e4, joinS_eq fab, meetS_eq fab]
      refine ext3 (n := b.length) (by rw [zip_len (by rw [zip_len hab, zip_len hab]), zip_len hab]) hzl fun i x y hx hy => ?_
      obtain ⟨x1, y1, p1, q1, rfl⟩ := zip_get hx
      obtain ⟨x2, y2, p2, q2, rfl⟩ := zip_get p1
      obtain ⟨x3, y3, p3, q3, rfl⟩ := zip_get q1
      obtain ⟨x4, y4, p4, q4, rfl⟩ := zip_get hy
      rw [p4] at p2 p3; rw [q4] at q2 q3
      injection p2 with p2; injection q2 with q2; injection p3 with p3; injection q3 with q3
      omega
    · rw [e1]
      have fzc : fitB (List.zipWith (· + ·) a b) c = true := fitB_iff.2 ⟨by omega, hz, hc⟩
      by_cases h2 : both addOk b c
      · right
        have e5 := addS_ok fbc h2
        have hz2 : isBagB (List.zipWith (· + ·) b c) = true := isBag_zip fbc fun i x y hx hy => by
          have b1 := bounds fbc i x y hx hy
          have b2 := h2 i x y hx hy
          unfold addOk at b2; omega
        have hz2l := zip_len (g := (· + ·)) hbc
        have faz : fitB a (List.zipWith (· + ·) b c) = true := fitB_iff.2 ⟨by omega, ha, hz2⟩
        refine ⟨by rw [e5], ?_⟩
        rw [e5]
        have hiff : both addOk (List.zipWith (· + ·) a b) c ↔ both addOk a (List.zipWith (· + ·) b c) := by
          constructor
          · intro hh i x y hx hy
            obtain ⟨x1, y1, p1, q1, rfl⟩ := zip_get hy
            have := hh i (x + x1) y1 (by rw [List.getElem?_zipWith, hx, p1]) q1
            unfold addOk at *; simp only at *; omega
          · intro hh i x y hx hy
            obtain ⟨x1, y1, p1, q1, rfl⟩ := zip_get hx
            have := hh i x1 (y1 + y) p1 (by rw [List.getElem?_zipWith, q1, hy])
            unfold addOk at *; simp only at *; omega
        by_cases h3 : both addOk (List.zipWith (· + ·) a b) c
        · rw [addS_ok fzc h3, addS_ok faz (hiff.1 h3)]
          congr 1
          refine ext3 (n := c.length) (zip_len (by omega)) (by rw [zip_len (by omega)]; exact hz2l) fun i x y hx hy => ?_
          obtain ⟨x1, y1, p1, q1, rfl⟩ := zip_get hx
          obtain ⟨x2, y2, p2, q2, rfl⟩ := zip_get p1
          obtain ⟨x3, y3, p3, q3, rfl⟩ := zip_get hy
          obtain ⟨x4, y4, p4, q4, rfl⟩ := zip_get q3
          rw [p3] at p2; rw [p4] at q2; rw [q4] at q1
          injection p2; injection q2; injection q1; omega
        · rw [addS_bad fzc h3, addS_bad faz (fun hh => h3 (hiff.2 hh))]
      · left
        refine ⟨by rw [addS_bad fbc h2], ?_⟩
        rw [addS_bad fzc ?_]
        intro hh
        apply h2
        intro i x y hx hy
        obtain ⟨u, hu⟩ := get_len hab (i := i) (by have := (List.getElem?_eq_some_iff.1 hx).1; omega)
        have := hh i (u + x) y (by rw [List.getElem?_zipWith, hu, hx]) hy
        have b0 := isBag_get ha hu
        unfold addOk at *; simp only at *; omega
  · left
    have h1' : ¬ both addOk b a := fun hh => h1 fun i x y hx hy => by have := hh i y x hy hx; unfold addOk at *; omega
    rw [addS_bad fab h1, addS_bad fba h1']
    exact ⟨rfl, rfl⟩

theorem addS_err (a b : List Int) (h : fitB a b = true) : (addS a b).2 = 0 ∨ (addS a b).2 = 4 := by
  by_cases h1 : both addOk a b
  · left; rw [addS_ok h h1]
  · right; rw [addS_bad h h1]

set_option maxHeartbeats 4000000 in
set_option maxRecDepth 100000 in
theorem bagGroup_w (N : Int) (A : Option Addr) (n c : Nat) (l : List Int) (w : World) (h : Nums .i64 w A n c l) (hN1 : -9223372036854775808 ≤ N) (hN2 : N ≤ 9223372036854775807) :
    Calls Try.prog 8 #[.int .i64 N, .slice A n c] w (RetB w true) := by
  obtain ⟨k, hk⟩ : ∃ k : Nat, N % 8 = k := ⟨(N % 8).toNat, by omega⟩
  have hk8 : k < 8 := by omega
  have HK := Lib.hid hk
  clear hk
  have HL := Lib.hid (groupFacts (a := bagL k l 0) (b := bagL k l 3) (c := bagL k l 5) (by simp [bagL_len]) (by simp [bagL_len]) (bagL_bag _ _ _ (by omega)) (bagL_bag _ _ _ (by omega)) (bagL_bag _ _ _ (by omega)))
  go_enter Try.func8, Try.ntmps8
  go_wp2_with fail
  refine (around_c N 8 _ hN1 hN2 (by omega) (by omega)).mono ?_
  rintro e w' ⟨rfl, rfl⟩
  rw [HK.out]
  go_wp2_with fail
  refine (bag_c k 0 _ _ _ _ _ h (by omega) (by omega)).mono ?_
  rintro e w1 ⟨A1, n1, c1, rfl, hO1, hE1⟩
  replace h := h.e hE1
  go_wp2_with fail
  refine (bag_c k 3 _ _ _ _ _ h (by omega) (by omega)).mono ?_
  rintro e w2 ⟨A2, n2, c2, rfl, hO2, hE2⟩
  replace h := h.e hE2
  go_wp2_with fail
  refine (bag_c k 5 _ _ _ _ _ h (by omega) (by omega)).mono ?_
  rintro e w3 ⟨A3, n3, c3, rfl, hO3, hE3⟩
  have env := (((Env.nil w3).add ((hO1.reads.e hE2).e hE3)).add (hO2.reads.e hE3)).add hO3.reads
  have ext := (hE1.trans hE2).trans hE3
  clear hO1 hO2 hO3 hE1 hE2 hE3 h HK
  generalize bagL k l 0 = a at *
  generalize bagL k l 3 = b at *
  generalize bagL k l 5 = d at *
  rcases HL.out with ⟨g1, g2⟩ | ⟨g1, g2, g3, g4, g5, g6, ⟨g7, g8⟩ | ⟨g7, g8⟩⟩
  · have s1 : sameB (addS a b).1 (addS b a).1 = true := sameB_eq (by rw [g1])
    have g1' : (addS b a).2 = 4 := by rw [g1]; exact g2
    clear g1 HL
    go_wp2_with (first
      | (go_at_call 22; refine (add_c _ _ _ _ _ _ _ _ _ (env.at (by first | exact .head _ | exact .tail _ (.head _) | exact .tail _ (.tail _ (.head _)) | exact .tail _ (.tail _ (.tail _ (.head _))) | exact .tail _ (.tail _ (.tail _ (.tail _ (.head _)))) | exact .tail _ (.tail _ (.tail _ (.tail _ (.tail _ (.head _))))) | exact .tail _ (.tail _ (.tail _ (.tail _ (.tail _ (.tail _ (.head _)))))) | exact .tail _ (.tail _ (.tail _ (.tail _ (.tail _ (.tail _ (.tail _ (.head _))))))) | exact .tail _ (.tail _ (.tail _ (.tail _ (.tail _ (.tail _ (.tail _ (.tail _ (.head _)))))))) | exact .tail _ (.tail _ (.tail _ (.tail _ (.tail _ (.tail _ (.tail _ (.tail _ (.tail _ (.head _))))))))) | exact .tail _ (.tail _ (.tail _ (.tail _ (.tail _ (.tail _ (.tail _ (.tail _ (.tail _ (.tail _ (.head _)))))))))) | exact .tail _ (.tail _ (.tail _ (.tail _ (.tail _ (.tail _ (.tail _ (.tail _ (.tail _ (.tail _ (.tail _ (.head _))))))))))))) (env.at (by first | exact .head _ | exact .tail _ (.head _) | exact .tail _ (.tail _ (.head _)) | exact .tail _ (.tail _ (.tail _ (.head _))) | exact .tail _ (.tail _ (.tail _ (.tail _ (.head _)))) | exact .tail _ (.tail _ (.tail _ (.tail _ (.tail _ (.head _))))) | exact .tail _ (.tail _ (.tail _ (.tail _ (.tail _ (.tail _ (.head _)))))) | exact .tail _ (.tail _ (.tail _ (.tail _ (.tail _ (.tail _ (.tail _ (.head _))))))) | exact .tail _ (.tail _ (.tail _ (.tail _ (.tail _ (.tail _ (.tail _ (.tail _ (.head _)))))))) | exact .tail _ (.tail _ (.tail _ (.tail _ (.tail _ (.tail _ (.tail _ (.tail _ (.tail _ (.head _))))))))) | exact .tail _ (.tail _ (.tail _ (.tail _ (.tail _ (.tail _ (.tail _ (.tail _ (.tail _ (.tail _ (.head _)))))))))) | exact .tail _ (.tail _ (.tail _ (.tail _ (.tail _ (.tail _ (.tail _ (.tail _ (.tail _ (.tail _ (.tail _ (.head _)))))))))))))).mono ?_; rintro e w' ⟨A', n', c', rfl, hO, hE⟩; replace env := (env.e hE).add hO.reads; replace ext := ext.trans hE; clear hE hO)
      | (go_at_call 34; refine (sub_c _ _ _ _ _ _ _ _ _ (env.at (by first | exact .head _ | exact .tail _ (.head _) | exact .tail _ (.tail _ (.head _)) | exact .tail _ (.tail _ (.tail _ (.head _))) | exact .tail _ (.tail _ (.tail _ (.tail _ (.head _)))) | exact .tail _ (.tail _ (.tail _ (.tail _ (.tail _ (.head _))))) | exact .tail _ (.tail _ (.tail _ (.tail _ (.tail _ (.tail _ (.head _)))))) | exact .tail _ (.tail _ (.tail _ (.tail _ (.tail _ (.tail _ (.tail _ (.head _))))))) | exact .tail _ (.tail _ (.tail _ (.tail _ (.tail _ (.tail _ (.tail _ (.tail _ (.head _)))))))) | exact .tail _ (.tail _ (.tail _ (.tail _ (.tail _ (.tail _ (.tail _ (.tail _ (.tail _ (.head _))))))))) | exact .tail _ (.tail _ (.tail _ (.tail _ (.tail _ (.tail _ (.tail _ (.tail _ (.tail _ (.tail _ (.head _)))))))))) | exact .tail _ (.tail _ (.tail _ (.tail _ (.tail _ (.tail _ (.tail _ (.tail _ (.tail _ (.tail _ (.tail _ (.head _))))))))))))) (env.at (by first | exact .head _ | exact .tail _ (.head _) | exact .tail _ (.tail _ (.head _)) | exact .tail _ (.tail _ (.tail _ (.head _))) | exact .tail _ (.tail _ (.tail _ (.tail _ (.head _)))) | exact .tail _ (.tail _ (.tail _ (.tail _ (.tail _ (.head _))))) | exact .tail _ (.tail _ (.tail _ (.tail _ (.tail _ (.tail _ (.head _)))))) | exact .tail _ (.tail _ (.tail _ (.tail _ (.tail _ (.tail _ (.tail _ (.head _))))))) | exact .tail _ (.tail _ (.tail _ (.tail _ (.tail _ (.tail _ (.tail _ (.tail _ (.head _)))))))) | exact .tail _ (.tail _ (.tail _ (.tail _ (.tail _ (.tail _ (.tail _ (.tail _ (.tail _ (.head _))))))))) | exact .tail _ (.tail _ (.tail _ (.tail _ (.tail _ (.tail _ (.tail _ (.tail _ (.tail _ (.tail _ (.head _)))))))))) | exact .tail _ (.tail _ (.tail _ (.tail _ (.tail _ (.tail _ (.tail _ (.tail _ (.tail _ (.tail _ (.tail _ (.head _)))))))))))))).mono ?_; rintro e w' ⟨A', n', c', rfl, hO, hE⟩; replace env := (env.e hE).add hO.reads; replace ext := ext.trans hE; clear hE hO)
      | (go_at_call 16; refine (same_e _ _ _ _ _ _ _ _ _ (env.at (by first | exact .head _ | exact .tail _ (.head _) | exact .tail _ (.tail _ (.head _)) | exact .tail _ (.tail _ (.tail _ (.head _))) | exact .tail _ (.tail _ (.tail _ (.tail _ (.head _)))) | exact .tail _ (.tail _ (.tail _ (.tail _ (.tail _ (.head _))))) | exact .tail _ (.tail _ (.tail _ (.tail _ (.tail _ (.tail _ (.head _)))))) | exact .tail _ (.tail _ (.tail _ (.tail _ (.tail _ (.tail _ (.tail _ (.head _))))))) | exact .tail _ (.tail _ (.tail _ (.tail _ (.tail _ (.tail _ (.tail _ (.tail _ (.head _)))))))) | exact .tail _ (.tail _ (.tail _ (.tail _ (.tail _ (.tail _ (.tail _ (.tail _ (.tail _ (.head _))))))))) | exact .tail _ (.tail _ (.tail _ (.tail _ (.tail _ (.tail _ (.tail _ (.tail _ (.tail _ (.tail _ (.head _)))))))))) | exact .tail _ (.tail _ (.tail _ (.tail _ (.tail _ (.tail _ (.tail _ (.tail _ (.tail _ (.tail _ (.tail _ (.head _))))))))))))) (env.at (by first | exact .head _ | exact .tail _ (.head _) | exact .tail _ (.tail _ (.head _)) | exact .tail _ (.tail _ (.tail _ (.head _))) | exact .tail _ (.tail _ (.tail _ (.tail _ (.head _)))) | exact .tail _ (.tail _ (.tail _ (.tail _ (.tail _ (.head _))))) | exact .tail _ (.tail _ (.tail _ (.tail _ (.tail _ (.tail _ (.head _)))))) | exact .tail _ (.tail _ (.tail _ (.tail _ (.tail _ (.tail _ (.tail _ (.head _))))))) | exact .tail _ (.tail _ (.tail _ (.tail _ (.tail _ (.tail _ (.tail _ (.tail _ (.head _)))))))) | exact .tail _ (.tail _ (.tail _ (.tail _ (.tail _ (.tail _ (.tail _ (.tail _ (.tail _ (.head _))))))))) | exact .tail _ (.tail _ (.tail _ (.tail _ (.tail _ (.tail _ (.tail _ (.tail _ (.tail _ (.tail _ (.head _)))))))))) | exact .tail _ (.tail _ (.tail _ (.tail _ (.tail _ (.tail _ (.tail _ (.tail _ (.tail _ (.tail _ (.tail _ (.head _)))))))))))))).mono ?_; rintro e w' ⟨rfl, hE⟩; replace env := env.e hE; replace ext := ext.trans hE; clear hE)
      | (go_at_call 32; refine (join_c _ _ _ _ _ _ _ _ _ (env.at (by first | exact .head _ | exact .tail _ (.head _) | exact .tail _ (.tail _ (.head _)) | exact .tail _ (.tail _ (.tail _ (.head _))) | exact .tail _ (.tail _ (.tail _ (.tail _ (.head _)))) | exact .tail _ (.tail _ (.tail _ (.tail _ (.tail _ (.head _))))) | exact .tail _ (.tail _ (.tail _ (.tail _ (.tail _ (.tail _ (.head _)))))) | exact .tail _ (.tail _ (.tail _ (.tail _ (.tail _ (.tail _ (.tail _ (.head _))))))) | exact .tail _ (.tail _ (.tail _ (.tail _ (.tail _ (.tail _ (.tail _ (.tail _ (.head _)))))))) | exact .tail _ (.tail _ (.tail _ (.tail _ (.tail _ (.tail _ (.tail _ (.tail _ (.tail _ (.head _))))))))) | exact .tail _ (.tail _ (.tail _ (.tail _ (.tail _ (.tail _ (.tail _ (.tail _ (.tail _ (.tail _ (.head _)))))))))) | exact .tail _ (.tail _ (.tail _ (.tail _ (.tail _ (.tail _ (.tail _ (.tail _ (.tail _ (.tail _ (.tail _ (.head _))))))))))))) (env.at (by first | exact .head _ | exact .tail _ (.head _) | exact .tail _ (.tail _ (.head _)) | exact .tail _ (.tail _ (.tail _ (.head _))) | exact .tail _ (.tail _ (.tail _ (.tail _ (.head _)))) | exact .tail _ (.tail _ (.tail _ (.tail _ (.tail _ (.head _))))) | exact .tail _ (.tail _ (.tail _ (.tail _ (.tail _ (.tail _ (.head _)))))) | exact .tail _ (.tail _ (.tail _ (.tail _ (.tail _ (.tail _ (.tail _ (.head _))))))) | exact .tail _ (.tail _ (.tail _ (.tail _ (.tail _ (.tail _ (.tail _ (.tail _ (.head _)))))))) | exact .tail _ (.tail _ (.tail _ (.tail _ (.tail _ (.tail _ (.tail _ (.tail _ (.tail _ (.head _))))))))) | exact .tail _ (.tail _ (.tail _ (.tail _ (.tail _ (.tail _ (.tail _ (.tail _ (.tail _ (.tail _ (.head _)))))))))) | exact .tail _ (.tail _ (.tail _ (.tail _ (.tail _ (.tail _ (.tail _ (.tail _ (.tail _ (.tail _ (.tail _ (.head _)))))))))))))).mono ?_; rintro e w' ⟨A', n', c', rfl, hO, hE⟩; replace env := (env.e hE).add hO.reads; replace ext := ext.trans hE; clear hE hO)
      | (go_at_call 33; refine (meet_c _ _ _ _ _ _ _ _ _ (env.at (by first | exact .head _ | exact .tail _ (.head _) | exact .tail _ (.tail _ (.head _)) | exact .tail _ (.tail _ (.tail _ (.head _))) | exact .tail _ (.tail _ (.tail _ (.tail _ (.head _)))) | exact .tail _ (.tail _ (.tail _ (.tail _ (.tail _ (.head _))))) | exact .tail _ (.tail _ (.tail _ (.tail _ (.tail _ (.tail _ (.head _)))))) | exact .tail _ (.tail _ (.tail _ (.tail _ (.tail _ (.tail _ (.tail _ (.head _))))))) | exact .tail _ (.tail _ (.tail _ (.tail _ (.tail _ (.tail _ (.tail _ (.tail _ (.head _)))))))) | exact .tail _ (.tail _ (.tail _ (.tail _ (.tail _ (.tail _ (.tail _ (.tail _ (.tail _ (.head _))))))))) | exact .tail _ (.tail _ (.tail _ (.tail _ (.tail _ (.tail _ (.tail _ (.tail _ (.tail _ (.tail _ (.head _)))))))))) | exact .tail _ (.tail _ (.tail _ (.tail _ (.tail _ (.tail _ (.tail _ (.tail _ (.tail _ (.tail _ (.tail _ (.head _))))))))))))) (env.at (by first | exact .head _ | exact .tail _ (.head _) | exact .tail _ (.tail _ (.head _)) | exact .tail _ (.tail _ (.tail _ (.head _))) | exact .tail _ (.tail _ (.tail _ (.tail _ (.head _)))) | exact .tail _ (.tail _ (.tail _ (.tail _ (.tail _ (.head _))))) | exact .tail _ (.tail _ (.tail _ (.tail _ (.tail _ (.tail _ (.head _)))))) | exact .tail _ (.tail _ (.tail _ (.tail _ (.tail _ (.tail _ (.tail _ (.head _))))))) | exact .tail _ (.tail _ (.tail _ (.tail _ (.tail _ (.tail _ (.tail _ (.tail _ (.head _)))))))) | exact .tail _ (.tail _ (.tail _ (.tail _ (.tail _ (.tail _ (.tail _ (.tail _ (.tail _ (.head _))))))))) | exact .tail _ (.tail _ (.tail _ (.tail _ (.tail _ (.tail _ (.tail _ (.tail _ (.tail _ (.tail _ (.head _)))))))))) | exact .tail _ (.tail _ (.tail _ (.tail _ (.tail _ (.tail _ (.tail _ (.tail _ (.tail _ (.tail _ (.tail _ (.head _)))))))))))))).mono ?_; rintro e w' ⟨A', n', c', rfl, hO, hE⟩; replace env := (env.e hE).add hO.reads; replace ext := ext.trans hE; clear hE hO)
      | (go_at_call 19; refine (lives_c _).mono ?_; rintro e w' ⟨rfl, hE⟩; replace env := env.e hE; replace ext := ext.trans hE; clear hE))
    go_ret
    exact ⟨rfl, ext⟩
  · have s1 : sameB (addS a b).1 (addS b a).1 = true := sameB_eq (by rw [g1])
    have g1' : (addS b a).2 = 0 := by rw [g1]; exact g2
    have s2 := sameB_eq g5
    have s3 := sameB_eq g6
    clear g1 HL g5 g6
    go_wp2_with (first
      | (go_at_call 22; refine (add_c _ _ _ _ _ _ _ _ _ (env.at (by first | exact .head _ | exact .tail _ (.head _) | exact .tail _ (.tail _ (.head _)) | exact .tail _ (.tail _ (.tail _ (.head _))) | exact .tail _ (.tail _ (.tail _ (.tail _ (.head _)))) | exact .tail _ (.tail _ (.tail _ (.tail _ (.tail _ (.head _))))) | exact .tail _ (.tail _ (.tail _ (.tail _ (.tail _ (.tail _ (.head _)))))) | exact .tail _ (.tail _ (.tail _ (.tail _ (.tail _ (.tail _ (.tail _ (.head _))))))) | exact .tail _ (.tail _ (.tail _ (.tail _ (.tail _ (.tail _ (.tail _ (.tail _ (.head _)))))))) | exact .tail _ (.tail _ (.tail _ (.tail _ (.tail _ (.tail _ (.tail _ (.tail _ (.tail _ (.head _))))))))) | exact .tail _ (.tail _ (.tail _ (.tail _ (.tail _ (.tail _ (.tail _ (.tail _ (.tail _ (.tail _ (.head _)))))))))) | exact .tail _ (.tail _ (.tail _ (.tail _ (.tail _ (.tail _ (.tail _ (.tail _ (.tail _ (.tail _ (.tail _ (.head _))))))))))))) (env.at (by first | exact .head _ | exact .tail _ (.head _) | exact .tail _ (.tail _ (.head _)) | exact .tail _ (.tail _ (.tail _ (.head _))) | exact .tail _ (.tail _ (.tail _ (.tail _ (.head _)))) | exact .tail _ (.tail _ (.tail _ (.tail _ (.tail _ (.head _))))) | exact .tail _ (.tail _ (.tail _ (.tail _ (.tail _ (.tail _ (.head _)))))) | exact .tail _ (.tail _ (.tail _ (.tail _ (.tail _ (.tail _ (.tail _ (.head _))))))) | exact .tail _ (.tail _ (.tail _ (.tail _ (.tail _ (.tail _ (.tail _ (.tail _ (.head _)))))))) | exact .tail _ (.tail _ (.tail _ (.tail _ (.tail _ (.tail _ (.tail _ (.tail _ (.tail _ (.head _))))))))) | exact .tail _ (.tail _ (.tail _ (.tail _ (.tail _ (.tail _ (.tail _ (.tail _ (.tail _ (.tail _ (.head _)))))))))) | exact .tail _ (.tail _ (.tail _ (.tail _ (.tail _ (.tail _ (.tail _ (.tail _ (.tail _ (.tail _ (.tail _ (.head _)))))))))))))).mono ?_; rintro e w' ⟨A', n', c', rfl, hO, hE⟩; replace env := (env.e hE).add hO.reads; replace ext := ext.trans hE; clear hE hO)
      | (go_at_call 34; refine (sub_c _ _ _ _ _ _ _ _ _ (env.at (by first | exact .head _ | exact .tail _ (.head _) | exact .tail _ (.tail _ (.head _)) | exact .tail _ (.tail _ (.tail _ (.head _))) | exact .tail _ (.tail _ (.tail _ (.tail _ (.head _)))) | exact .tail _ (.tail _ (.tail _ (.tail _ (.tail _ (.head _))))) | exact .tail _ (.tail _ (.tail _ (.tail _ (.tail _ (.tail _ (.head _)))))) | exact .tail _ (.tail _ (.tail _ (.tail _ (.tail _ (.tail _ (.tail _ (.head _))))))) | exact .tail _ (.tail _ (.tail _ (.tail _ (.tail _ (.tail _ (.tail _ (.tail _ (.head _)))))))) | exact .tail _ (.tail _ (.tail _ (.tail _ (.tail _ (.tail _ (.tail _ (.tail _ (.tail _ (.head _))))))))) | exact .tail _ (.tail _ (.tail _ (.tail _ (.tail _ (.tail _ (.tail _ (.tail _ (.tail _ (.tail _ (.head _)))))))))) | exact .tail _ (.tail _ (.tail _ (.tail _ (.tail _ (.tail _ (.tail _ (.tail _ (.tail _ (.tail _ (.tail _ (.head _))))))))))))) (env.at (by first | exact .head _ | exact .tail _ (.head _) | exact .tail _ (.tail _ (.head _)) | exact .tail _ (.tail _ (.tail _ (.head _))) | exact .tail _ (.tail _ (.tail _ (.tail _ (.head _)))) | exact .tail _ (.tail _ (.tail _ (.tail _ (.tail _ (.head _))))) | exact .tail _ (.tail _ (.tail _ (.tail _ (.tail _ (.tail _ (.head _)))))) | exact .tail _ (.tail _ (.tail _ (.tail _ (.tail _ (.tail _ (.tail _ (.head _))))))) | exact .tail _ (.tail _ (.tail _ (.tail _ (.tail _ (.tail _ (.tail _ (.tail _ (.head _)))))))) | exact .tail _ (.tail _ (.tail _ (.tail _ (.tail _ (.tail _ (.tail _ (.tail _ (.tail _ (.head _))))))))) | exact .tail _ (.tail _ (.tail _ (.tail _ (.tail _ (.tail _ (.tail _ (.tail _ (.tail _ (.tail _ (.head _)))))))))) | exact .tail _ (.tail _ (.tail _ (.tail _ (.tail _ (.tail _ (.tail _ (.tail _ (.tail _ (.tail _ (.tail _ (.head _)))))))))))))).mono ?_; rintro e w' ⟨A', n', c', rfl, hO, hE⟩; replace env := (env.e hE).add hO.reads; replace ext := ext.trans hE; clear hE hO)
      | (go_at_call 16; refine (same_e _ _ _ _ _ _ _ _ _ (env.at (by first | exact .head _ | exact .tail _ (.head _) | exact .tail _ (.tail _ (.head _)) | exact .tail _ (.tail _ (.tail _ (.head _))) | exact .tail _ (.tail _ (.tail _ (.tail _ (.head _)))) | exact .tail _ (.tail _ (.tail _ (.tail _ (.tail _ (.head _))))) | exact .tail _ (.tail _ (.tail _ (.tail _ (.tail _ (.tail _ (.head _)))))) | exact .tail _ (.tail _ (.tail _ (.tail _ (.tail _ (.tail _ (.tail _ (.head _))))))) | exact .tail _ (.tail _ (.tail _ (.tail _ (.tail _ (.tail _ (.tail _ (.tail _ (.head _)))))))) | exact .tail _ (.tail _ (.tail _ (.tail _ (.tail _ (.tail _ (.tail _ (.tail _ (.tail _ (.head _))))))))) | exact .tail _ (.tail _ (.tail _ (.tail _ (.tail _ (.tail _ (.tail _ (.tail _ (.tail _ (.tail _ (.head _)))))))))) | exact .tail _ (.tail _ (.tail _ (.tail _ (.tail _ (.tail _ (.tail _ (.tail _ (.tail _ (.tail _ (.tail _ (.head _))))))))))))) (env.at (by first | exact .head _ | exact .tail _ (.head _) | exact .tail _ (.tail _ (.head _)) | exact .tail _ (.tail _ (.tail _ (.head _))) | exact .tail _ (.tail _ (.tail _ (.tail _ (.head _)))) | exact .tail _ (.tail _ (.tail _ (.tail _ (.tail _ (.head _))))) | exact .tail _ (.tail _ (.tail _ (.tail _ (.tail _ (.tail _ (.head _)))))) | exact .tail _ (.tail _ (.tail _ (.tail _ (.tail _ (.tail _ (.tail _ (.head _))))))) | exact .tail _ (.tail _ (.tail _ (.tail _ (.tail _ (.tail _ (.tail _ (.tail _ (.head _)))))))) | exact .tail _ (.tail _ (.tail _ (.tail _ (.tail _ (.tail _ (.tail _ (.tail _ (.tail _ (.head _))))))))) | exact .tail _ (.tail _ (.tail _ (.tail _ (.tail _ (.tail _ (.tail _ (.tail _ (.tail _ (.tail _ (.head _)))))))))) | exact .tail _ (.tail _ (.tail _ (.tail _ (.tail _ (.tail _ (.tail _ (.tail _ (.tail _ (.tail _ (.tail _ (.head _)))))))))))))).mono ?_; rintro e w' ⟨rfl, hE⟩; replace env := env.e hE; replace ext := ext.trans hE; clear hE)
      | (go_at_call 32; refine (join_c _ _ _ _ _ _ _ _ _ (env.at (by first | exact .head _ | exact .tail _ (.head _) | exact .tail _ (.tail _ (.head _)) | exact .tail _ (.tail _ (.tail _ (.head _))) | exact .tail _ (.tail _ (.tail _ (.tail _ (.head _)))) | exact .tail _ (.tail _ (.tail _ (.tail _ (.tail _ (.head _))))) | exact .tail _ (.tail _ (.tail _ (.tail _ (.tail _ (.tail _ (.head _)))))) | exact .tail _ (.tail _ (.tail _ (.tail _ (.tail _ (.tail _ (.tail _ (.head _))))))) | exact .tail _ (.tail _ (.tail _ (.tail _ (.tail _ (.tail _ (.tail _ (.tail _ (.head _)))))))) | exact .tail _ (.tail _ (.tail _ (.tail _ (.tail _ (.tail _ (.tail _ (.tail _ (.tail _ (.head _))))))))) | exact .tail _ (.tail _ (.tail _ (.tail _ (.tail _ (.tail _ (.tail _ (.tail _ (.tail _ (.tail _ (.head _)))))))))) | exact .tail _ (.tail _ (.tail _ (.tail _ (.tail _ (.tail _ (.tail _ (.tail _ (.tail _ (.tail _ (.tail _ (.head _))))))))))))) (env.at (by first | exact .head _ | exact .tail _ (.head _) | exact .tail _ (.tail _ (.head _)) | exact .tail _ (.tail _ (.tail _ (.head _))) | exact .tail _ (.tail _ (.tail _ (.tail _ (.head _)))) | exact .tail _ (.tail _ (.tail _ (.tail _ (.tail _ (.head _))))) | exact .tail _ (.tail _ (.tail _ (.tail _ (.tail _ (.tail _ (.head _)))))) | exact .tail _ (.tail _ (.tail _ (.tail _ (.tail _ (.tail _ (.tail _ (.head _))))))) | exact .tail _ (.tail _ (.tail _ (.tail _ (.tail _ (.tail _ (.tail _ (.tail _ (.head _)))))))) | exact .tail _ (.tail _ (.tail _ (.tail _ (.tail _ (.tail _ (.tail _ (.tail _ (.tail _ (.head _))))))))) | exact .tail _ (.tail _ (.tail _ (.tail _ (.tail _ (.tail _ (.tail _ (.tail _ (.tail _ (.tail _ (.head _)))))))))) | exact .tail _ (.tail _ (.tail _ (.tail _ (.tail _ (.tail _ (.tail _ (.tail _ (.tail _ (.tail _ (.tail _ (.head _)))))))))))))).mono ?_; rintro e w' ⟨A', n', c', rfl, hO, hE⟩; replace env := (env.e hE).add hO.reads; replace ext := ext.trans hE; clear hE hO)
      | (go_at_call 33; refine (meet_c _ _ _ _ _ _ _ _ _ (env.at (by first | exact .head _ | exact .tail _ (.head _) | exact .tail _ (.tail _ (.head _)) | exact .tail _ (.tail _ (.tail _ (.head _))) | exact .tail _ (.tail _ (.tail _ (.tail _ (.head _)))) | exact .tail _ (.tail _ (.tail _ (.tail _ (.tail _ (.head _))))) | exact .tail _ (.tail _ (.tail _ (.tail _ (.tail _ (.tail _ (.head _)))))) | exact .tail _ (.tail _ (.tail _ (.tail _ (.tail _ (.tail _ (.tail _ (.head _))))))) | exact .tail _ (.tail _ (.tail _ (.tail _ (.tail _ (.tail _ (.tail _ (.tail _ (.head _)))))))) | exact .tail _ (.tail _ (.tail _ (.tail _ (.tail _ (.tail _ (.tail _ (.tail _ (.tail _ (.head _))))))))) | exact .tail _ (.tail _ (.tail _ (.tail _ (.tail _ (.tail _ (.tail _ (.tail _ (.tail _ (.tail _ (.head _)))))))))) | exact .tail _ (.tail _ (.tail _ (.tail _ (.tail _ (.tail _ (.tail _ (.tail _ (.tail _ (.tail _ (.tail _ (.head _))))))))))))) (env.at (by first | exact .head _ | exact .tail _ (.head _) | exact .tail _ (.tail _ (.head _)) | exact .tail _ (.tail _ (.tail _ (.head _))) | exact .tail _ (.tail _ (.tail _ (.tail _ (.head _)))) | exact .tail _ (.tail _ (.tail _ (.tail _ (.tail _ (.head _))))) | exact .tail _ (.tail _ (.tail _ (.tail _ (.tail _ (.tail _ (.head _)))))) | exact .tail _ (.tail _ (.tail _ (.tail _ (.tail _ (.tail _ (.tail _ (.head _))))))) | exact .tail _ (.tail _ (.tail _ (.tail _ (.tail _ (.tail _ (.tail _ (.tail _ (.head _)))))))) | exact .tail _ (.tail _ (.tail _ (.tail _ (.tail _ (.tail _ (.tail _ (.tail _ (.tail _ (.head _))))))))) | exact .tail _ (.tail _ (.tail _ (.tail _ (.tail _ (.tail _ (.tail _ (.tail _ (.tail _ (.tail _ (.head _)))))))))) | exact .tail _ (.tail _ (.tail _ (.tail _ (.tail _ (.tail _ (.tail _ (.tail _ (.tail _ (.tail _ (.tail _ (.head _)))))))))))))).mono ?_; rintro e w' ⟨A', n', c', rfl, hO, hE⟩; replace env := (env.e hE).add hO.reads; replace ext := ext.trans hE; clear hE hO)
      | (go_at_call 19; refine (lives_c _).mono ?_; rintro e w' ⟨rfl, hE⟩; replace env := env.e hE; replace ext := ext.trans hE; clear hE))
    go_ret
    exact ⟨rfl, ext⟩
  · have s1 : sameB (addS a b).1 (addS b a).1 = true := sameB_eq (by rw [g1])
    have g1' : (addS b a).2 = 0 := by rw [g1]; exact g2
    have s2 := sameB_eq g5
    have s3 := sameB_eq g6
    have s4 : sameB (addS (addS a b).1 d).1 (addS a (addS b d).1).1 = true := sameB_eq (by rw [g8])
    have g9 : ((addS (addS a b).1 d).2 == (addS a (addS b d).1).2) = true := by rw [g8]; simp
    clear g1 HL g5 g6 g8
    go_wp2_with (first
      | (go_at_call 22; refine (add_c _ _ _ _ _ _ _ _ _ (env.at (by first | exact .head _ | exact .tail _ (.head _) | exact .tail _ (.tail _ (.head _)) | exact .tail _ (.tail _ (.tail _ (.head _))) | exact .tail _ (.tail _ (.tail _ (.tail _ (.head _)))) | exact .tail _ (.tail _ (.tail _ (.tail _ (.tail _ (.head _))))) | exact .tail _ (.tail _ (.tail _ (.tail _ (.tail _ (.tail _ (.head _)))))) | exact .tail _ (.tail _ (.tail _ (.tail _ (.tail _ (.tail _ (.tail _ (.head _))))))) | exact .tail _ (.tail _ (.tail _ (.tail _ (.tail _ (.tail _ (.tail _ (.tail _ (.head _)))))))) | exact .tail _ (.tail _ (.tail _ (.tail _ (.tail _ (.tail _ (.tail _ (.tail _ (.tail _ (.head _))))))))) | exact .tail _ (.tail _ (.tail _ (.tail _ (.tail _ (.tail _ (.tail _ (.tail _ (.tail _ (.tail _ (.head _)))))))))) | exact .tail _ (.tail _ (.tail _ (.tail _ (.tail _ (.tail _ (.tail _ (.tail _ (.tail _ (.tail _ (.tail _ (.head _))))))))))))) (env.at (by first | exact .head _ | exact .tail _ (.head _) | exact .tail _ (.tail _ (.head _)) | exact .tail _ (.tail _ (.tail _ (.head _))) | exact .tail _ (.tail _ (.tail _ (.tail _ (.head _)))) | exact .tail _ (.tail _ (.tail _ (.tail _ (.tail _ (.head _))))) | exact .tail _ (.tail _ (.tail _ (.tail _ (.tail _ (.tail _ (.head _)))))) | exact .tail _ (.tail _ (.tail _ (.tail _ (.tail _ (.tail _ (.tail _ (.head _))))))) | exact .tail _ (.tail _ (.tail _ (.tail _ (.tail _ (.tail _ (.tail _ (.tail _ (.head _)))))))) | exact .tail _ (.tail _ (.tail _ (.tail _ (.tail _ (.tail _ (.tail _ (.tail _ (.tail _ (.head _))))))))) | exact .tail _ (.tail _ (.tail _ (.tail _ (.tail _ (.tail _ (.tail _ (.tail _ (.tail _ (.tail _ (.head _)))))))))) | exact .tail _ (.tail _ (.tail _ (.tail _ (.tail _ (.tail _ (.tail _ (.tail _ (.tail _ (.tail _ (.tail _ (.head _)))))))))))))).mono ?_; rintro e w' ⟨A', n', c', rfl, hO, hE⟩; replace env := (env.e hE).add hO.reads; replace ext := ext.trans hE; clear hE hO)
      | (go_at_call 34; refine (sub_c _ _ _ _ _ _ _ _ _ (env.at (by first | exact .head _ | exact .tail _ (.head _) | exact .tail _ (.tail _ (.head _)) | exact .tail _ (.tail _ (.tail _ (.head _))) | exact .tail _ (.tail _ (.tail _ (.tail _ (.head _)))) | exact .tail _ (.tail _ (.tail _ (.tail _ (.tail _ (.head _))))) | exact .tail _ (.tail _ (.tail _ (.tail _ (.tail _ (.tail _ (.head _)))))) | exact .tail _ (.tail _ (.tail _ (.tail _ (.tail _ (.tail _ (.tail _ (.head _))))))) | exact .tail _ (.tail _ (.tail _ (.tail _ (.tail _ (.tail _ (.tail _ (.tail _ (.head _)))))))) | exact .tail _ (.tail _ (.tail _ (.tail _ (.tail _ (.tail _ (.tail _ (.tail _ (.tail _ (.head _))))))))) | exact .tail _ (.tail _ (.tail _ (.tail _ (.tail _ (.tail _ (.tail _ (.tail _ (.tail _ (.tail _ (.head _)))))))))) | exact .tail _ (.tail _ (.tail _ (.tail _ (.tail _ (.tail _ (.tail _ (.tail _ (.tail _ (.tail _ (.tail _ (.head _))))))))))))) (env.at (by first | exact .head _ | exact .tail _ (.head _) | exact .tail _ (.tail _ (.head _)) | exact .tail _ (.tail _ (.tail _ (.head _))) | exact .tail _ (.tail _ (.tail _ (.tail _ (.head _)))) | exact .tail _ (.tail _ (.tail _ (.tail _ (.tail _ (.head _))))) | exact .tail _ (.tail _ (.tail _ (.tail _ (.tail _ (.tail _ (.head _)))))) | exact .tail _ (.tail _ (.tail _ (.tail _ (.tail _ (.tail _ (.tail _ (.head _))))))) | exact .tail _ (.tail _ (.tail _ (.tail _ (.tail _ (.tail _ (.tail _ (.tail _ (.head _)))))))) | exact .tail _ (.tail _ (.tail _ (.tail _ (.tail _ (.tail _ (.tail _ (.tail _ (.tail _ (.head _))))))))) | exact .tail _ (.tail _ (.tail _ (.tail _ (.tail _ (.tail _ (.tail _ (.tail _ (.tail _ (.tail _ (.head _)))))))))) | exact .tail _ (.tail _ (.tail _ (.tail _ (.tail _ (.tail _ (.tail _ (.tail _ (.tail _ (.tail _ (.tail _ (.head _)))))))))))))).mono ?_; rintro e w' ⟨A', n', c', rfl, hO, hE⟩; replace env := (env.e hE).add hO.reads; replace ext := ext.trans hE; clear hE hO)
      | (go_at_call 16; refine (same_e _ _ _ _ _ _ _ _ _ (env.at (by first | exact .head _ | exact .tail _ (.head _) | exact .tail _ (.tail _ (.head _)) | exact .tail _ (.tail _ (.tail _ (.head _))) | exact .tail _ (.tail _ (.tail _ (.tail _ (.head _)))) | exact .tail _ (.tail _ (.tail _ (.tail _ (.tail _ (.head _))))) | exact .tail _ (.tail _ (.tail _ (.tail _ (.tail _ (.tail _ (.head _)))))) | exact .tail _ (.tail _ (.tail _ (.tail _ (.tail _ (.tail _ (.tail _ (.head _))))))) | exact .tail _ (.tail _ (.tail _ (.tail _ (.tail _ (.tail _ (.tail _ (.tail _ (.head _)))))))) | exact .tail _ (.tail _ (.tail _ (.tail _ (.tail _ (.tail _ (.tail _ (.tail _ (.tail _ (.head _))))))))) | exact .tail _ (.tail _ (.tail _ (.tail _ (.tail _ (.tail _ (.tail _ (.tail _ (.tail _ (.tail _ (.head _)))))))))) | exact .tail _ (.tail _ (.tail _ (.tail _ (.tail _ (.tail _ (.tail _ (.tail _ (.tail _ (.tail _ (.tail _ (.head _))))))))))))) (env.at (by first | exact .head _ | exact .tail _ (.head _) | exact .tail _ (.tail _ (.head _)) | exact .tail _ (.tail _ (.tail _ (.head _))) | exact .tail _ (.tail _ (.tail _ (.tail _ (.head _)))) | exact .tail _ (.tail _ (.tail _ (.tail _ (.tail _ (.head _))))) | exact .tail _ (.tail _ (.tail _ (.tail _ (.tail _ (.tail _ (.head _)))))) | exact .tail _ (.tail _ (.tail _ (.tail _ (.tail _ (.tail _ (.tail _ (.head _))))))) | exact .tail _ (.tail _ (.tail _ (.tail _ (.tail _ (.tail _ (.tail _ (.tail _ (.head _)))))))) | exact .tail _ (.tail _ (.tail _ (.tail _ (.tail _ (.tail _ (.tail _ (.tail _ (.tail _ (.head _))))))))) | exact .tail _ (.tail _ (.tail _ (.tail _ (.tail _ (.tail _ (.tail _ (.tail _ (.tail _ (.tail _ (.head _)))))))))) | exact .tail _ (.tail _ (.tail _ (.tail _ (.tail _ (.tail _ (.tail _ (.tail _ (.tail _ (.tail _ (.tail _ (.head _)))))))))))))).mono ?_; rintro e w' ⟨rfl, hE⟩; replace env := env.e hE; replace ext := ext.trans hE; clear hE)
      | (go_at_call 32; refine (join_c _ _ _ _ _ _ _ _ _ (env.at (by first | exact .head _ | exact .tail _ (.head _) | exact .tail _ (.tail _ (.head _)) | exact .tail _ (.tail _ (.tail _ (.head _))) | exact .tail _ (.tail _ (.tail _ (.tail _ (.head _)))) | exact .tail _ (.tail _ (.tail _ (.tail _ (.tail _ (.head _))))) | exact .tail _ (.tail _ (.tail _ (.tail _ (.tail _ (.tail _ (.head _)))))) | exact .tail _ (.tail _ (.tail _ (.tail _ (.tail _ (.tail _ (.tail _ (.head _))))))) | exact .tail _ (.tail _ (.tail _ (.tail _ (.tail _ (.tail _ (.tail _ (.tail _ (.head _)))))))) | exact .tail _ (.tail _ (.tail _ (.tail _ (.tail _ (.tail _ (.tail _ (.tail _ (.tail _ (.head _))))))))) | exact .tail _ (.tail _ (.tail _ (.tail _ (.tail _ (.tail _ (.tail _ (.tail _ (.tail _ (.tail _ (.head _)))))))))) | exact .tail _ (.tail _ (.tail _ (.tail _ (.tail _ (.tail _ (.tail _ (.tail _ (.tail _ (.tail _ (.tail _ (.head _))))))))))))) (env.at (by first | exact .head _ | exact .tail _ (.head _) | exact .tail _ (.tail _ (.head _)) | exact .tail _ (.tail _ (.tail _ (.head _))) | exact .tail _ (.tail _ (.tail _ (.tail _ (.head _)))) | exact .tail _ (.tail _ (.tail _ (.tail _ (.tail _ (.head _))))) | exact .tail _ (.tail _ (.tail _ (.tail _ (.tail _ (.tail _ (.head _)))))) | exact .tail _ (.tail _ (.tail _ (.tail _ (.tail _ (.tail _ (.tail _ (.head _))))))) | exact .tail _ (.tail _ (.tail _ (.tail _ (.tail _ (.tail _ (.tail _ (.tail _ (.head _)))))))) | exact .tail _ (.tail _ (.tail _ (.tail _ (.tail _ (.tail _ (.tail _ (.tail _ (.tail _ (.head _))))))))) | exact .tail _ (.tail _ (.tail _ (.tail _ (.tail _ (.tail _ (.tail _ (.tail _ (.tail _ (.tail _ (.head _)))))))))) | exact .tail _ (.tail _ (.tail _ (.tail _ (.tail _ (.tail _ (.tail _ (.tail _ (.tail _ (.tail _ (.tail _ (.head _)))))))))))))).mono ?_; rintro e w' ⟨A', n', c', rfl, hO, hE⟩; replace env := (env.e hE).add hO.reads; replace ext := ext.trans hE; clear hE hO)
      | (go_at_call 33; refine (meet_c _ _ _ _ _ _ _ _ _ (env.at (by first | exact .head _ | exact .tail _ (.head _) | exact .tail _ (.tail _ (.head _)) | exact .tail _ (.tail _ (.tail _ (.head _))) | exact .tail _ (.tail _ (.tail _ (.tail _ (.head _)))) | exact .tail _ (.tail _ (.tail _ (.tail _ (.tail _ (.head _))))) | exact .tail _ (.tail _ (.tail _ (.tail _ (.tail _ (.tail _ (.head _)))))) | exact .tail _ (.tail _ (.tail _ (.tail _ (.tail _ (.tail _ (.tail _ (.head _))))))) | exact .tail _ (.tail _ (.tail _ (.tail _ (.tail _ (.tail _ (.tail _ (.tail _ (.head _)))))))) | exact .tail _ (.tail _ (.tail _ (.tail _ (.tail _ (.tail _ (.tail _ (.tail _ (.tail _ (.head _))))))))) | exact .tail _ (.tail _ (.tail _ (.tail _ (.tail _ (.tail _ (.tail _ (.tail _ (.tail _ (.tail _ (.head _)))))))))) | exact .tail _ (.tail _ (.tail _ (.tail _ (.tail _ (.tail _ (.tail _ (.tail _ (.tail _ (.tail _ (.tail _ (.head _))))))))))))) (env.at (by first | exact .head _ | exact .tail _ (.head _) | exact .tail _ (.tail _ (.head _)) | exact .tail _ (.tail _ (.tail _ (.head _))) | exact .tail _ (.tail _ (.tail _ (.tail _ (.head _)))) | exact .tail _ (.tail _ (.tail _ (.tail _ (.tail _ (.head _))))) | exact .tail _ (.tail _ (.tail _ (.tail _ (.tail _ (.tail _ (.head _)))))) | exact .tail _ (.tail _ (.tail _ (.tail _ (.tail _ (.tail _ (.tail _ (.head _))))))) | exact .tail _ (.tail _ (.tail _ (.tail _ (.tail _ (.tail _ (.tail _ (.tail _ (.head _)))))))) | exact .tail _ (.tail _ (.tail _ (.tail _ (.tail _ (.tail _ (.tail _ (.tail _ (.tail _ (.head _))))))))) | exact .tail _ (.tail _ (.tail _ (.tail _ (.tail _ (.tail _ (.tail _ (.tail _ (.tail _ (.tail _ (.head _)))))))))) | exact .tail _ (.tail _ (.tail _ (.tail _ (.tail _ (.tail _ (.tail _ (.tail _ (.tail _ (.tail _ (.tail _ (.head _)))))))))))))).mono ?_; rintro e w' ⟨A', n', c', rfl, hO, hE⟩; replace env := (env.e hE).add hO.reads; replace ext := ext.trans hE; clear hE hO)
      | (go_at_call 19; refine (lives_c _).mono ?_; rintro e w' ⟨rfl, hE⟩; replace env := env.e hE; replace ext := ext.trans hE; clear hE))
    go_ret
    exact ⟨rfl, ext⟩
end Go.Proofs.Ytbpfdogjjoceaaa
