/- The walk of ShareWritten. -/
import Derived.Test.YtkbdmicnmddikaaLawShA
import Derived.Test.YtkbdmicnmddikaaHB
import Derived.Test.YtkbdmicnmddikaaHC
namespace Go.Proofs.Ytkbdmicnmddikaa
open Go.RowKit

set_option maxHeartbeats 2000000 in
set_option maxRecDepth 100000 in
theorem shareWritten_w (total : Int) (A : Option Addr) (n c : Nat) (l : List Int) (w : World) (h : Nums .i64 w A n c l) (h1 : -9223372036854775808 ≤ total) (h2 : total ≤ 9223372036854775807) :
    Calls Try.prog 11 #[.int .i64 total, .slice A n c] w (RetT w true) := by
  obtain ⟨t, ht⟩ : ∃ t, total % 1099511627777 = t := ⟨_, rfl⟩
  have t0 : 0 ≤ t := by omega
  have t1 : t ≤ 1099511627776 := by omega
  have hpre := weightsL_pre t0 t1 l
  have hwl := weightsL_len l
  have HS := Lib.hid (show splitS t (weightsL l) = (splitL t (weightsL l), 0) by rw [splitS, if_pos (splitOk_of hpre)])
  have hsum := splitL_sum hpre
  have hlen := splitL_len t (weightsL l)
  have hrng := splitL_range hpre
  obtain ⟨X, hX⟩ : ∃ X, splitL t (weightsL l) = X := ⟨_, rfl⟩
  rw [hX] at HS hsum hlen hrng
  have HS2 := Lib.hid (show 0 < t → splitS t X = (X, 0) from fun hp => by
    have hp2 : SplitPre t X := ⟨t0, t1, fun x hx => ⟨(hrng x hx).1, by have := (hrng x hx).2; omega⟩, by omega, by omega⟩
    rw [splitS, if_pos (splitOk_of hp2), splitL_again hp hsum])
  clear hpre hsum hrng hX
  go_enter Try.func11, Try.ntmps11
  go_wp2_with fail
  refine (aroundR total 1099511627777 _ h1 h2 (by omega) (by omega)).mono ?_
  rintro e w' ⟨rfl, rfl⟩
  rw [ht]
  clear ht
  go_wp2_with fail
  refine (refWeights_c A n c l _ h).mono ?_
  rintro e w4 ⟨A4, n4, c4, rfl, hO4, hE⟩
  have hn4 := hO4.1
  rw [hn4] at hwl hlen
  go_wp2_with fail
  refine (split_c t A4 n4 c4 _ _ hO4.reads (by omega)).mono ?_
  rintro e w5 ⟨A5, n5, c5, rfl, hO5, hE5⟩
  rw [HS.out] at hO5 ⊢
  have hX5 := hO5.reads
  replace hE := hE.trans hE5
  have hn5 : n5 ≤ 7 := by have := hO5.1; simp only at this; omega
  have hXl : X.length ≤ 7 := by omega
  have HNl := Lib.hid hlen
  clear hE5 hO5 hO4 hlen hn4
  have hW0 := Wr.new w5
  have hE56 : E w5 (w5.alloc (.cells #[.slice none 0 0] 42)) := (E.refl w5).alloc _
  go_wp2_with fail
  refine (wInts_c w5.heap.size w5.heap.size A5 n5 c5 X [] _ hW0 (fun w' hb => hX5.e (Below.trans hE56 hb)) (by omega) (by simp) (by simp)).mono ?_
  rintro e w7 ⟨rfl, hW7, hK7⟩
  have hE57 : E w5 w7 := Below.trans hE56 hK7.1
  clear hW0 hK7 hE56
  rw [List.nil_append] at hW7
  have hel : (encI X).length ≤ 100 := by
    have := intsB_len X hX5.wf
    have := uv_len10 (n := X.length) (by omega)
    simp only [encI, List.length_append]; omega
  go_wp2_with fail
  refine (wDone_c _ _ _ _ hW7 (by omega)).mono ?_
  rintro e w8 ⟨A8, n8, c8, rfl, hO8, hE8⟩
  replace hE57 := hE57.trans hE8
  clear hW7 hE8
  have hn8 := hO8.1
  go_wp2_with fail
  refine (read_c _ _ _ _ _ hO8.reads (by omega)).mono ?_
  rintro e w9 ⟨g, rfl, hR9, hg9, hE9⟩
  have hg5 : w5.heap.size ≤ g := Nat.le_trans hE57.le hg9
  replace hE57 := hE57.trans hE9
  clear hO8 hn8 hE9
  go_wp2_with fail
  refine (rInts_c g X [] _ (by rw [List.append_nil]; exact hR9) hX5.wf (by omega)).mono ?_
  rintro e w10 ⟨A10, n10, c10, rfl, hO10, hR10, hG10⟩
  replace hE57 := hE57.grown hG10 (fun k e => by injection e with e; omega)
  have hY := hO10.reads
  replace hX5 := hX5.e hE57
  replace hE := hE.trans hE57
  clear hE57 hG10 hO10 hR9 hg9 hg5
  go_wp2_with fail
  refine (rEnd_c _ _ _ _ hR10).mono ?_
  rintro e w' ⟨rfl, rfl⟩
  have hend : endS [] 0 = 0 := rfl
  rw [hend]
  clear hend
  go_wp2_with fail
  refine (sameR_t _ _ _ _ _ _ _ _ hX5 hY).mono ?_
  rintro e w11 ⟨rfl, hE11⟩
  replace hX5 := hX5.e hE11
  replace hY := hY.e hE11
  replace hE := hE.trans hE11
  clear hE11 hR10
  go_wp2_with fail
  refine (sum_c _ (by decide) _ _ _ _ _ hX5).mono ?_
  rintro e w12 ⟨rfl, hE12⟩
  replace hX5 := hX5.e hE12
  replace hY := hY.e hE12
  replace hE := hE.trans hE12
  clear hE12
  go_wp2_with fail
  refine (sum_c _ (by decide) _ _ _ _ _ hY).mono ?_
  rintro e w13 ⟨rfl, hE13⟩
  replace hX5 := hX5.e hE13
  replace hY := hY.e hE13
  replace hE := hE.trans hE13
  clear hE13
  by_cases htz : t = 0
  · subst htz
    go_wp2_with fail
    refine (shLives_c _).mono ?_
    rintro e w14 ⟨rfl, hE14⟩
    go_wp2_with fail
    go_ret
    exact ⟨rfl, hE.trans hE14⟩
  · have htb : (t == 0) = false := by simpa using htz
    have hHS := HS2.out (by omega)
    clear htz
    go_wp2_with fail
    refine (split_c t _ _ _ _ _ hY (by have := hY.len; omega)).mono ?_
    rintro e w14 ⟨A14, n14, c14, rfl, hO14, hE14⟩
    rw [hHS] at hO14 ⊢
    replace hX5 := hX5.e hE14
    have hZ := hO14.reads
    replace hE := hE.trans hE14
    clear hE14 hO14 hY hHS
    go_wp2_with fail
    refine (sameR_t _ _ _ _ _ _ _ _ hZ hX5).mono ?_
    rintro e w15 ⟨rfl, hE15⟩
    replace hE := hE.trans hE15
    go_wp2_with fail
    refine (shLives_c _).mono ?_
    rintro e w16 ⟨rfl, hE16⟩
    go_wp2_with fail
    go_ret
    exact ⟨rfl, hE.trans hE16⟩
end Go.Proofs.Ytkbdmicnmddikaa
