/- Contracts of the reader of package wire. -/
import Derived.Test.YtpbkfpkgbfifaaaMW
import Derived.Test.YtpbkfpkgbfifaaaV2
namespace Go.Proofs.Ytpbkfpkgbfifaaa
open Go.RowKit

/-- the bytes lie in a block below g -/
def bnd (g : Nat) (A : Option Addr) (n : Nat) : Prop := ∀ b o, A = some ⟨b, o, none⟩ → 0 < n → b < g
/-- block g is a reader: the bytes that are left, and the error; the bytes lie below it -/
def Rd (w : World) (g : Nat) (rest : List Int) (err : Int) : Prop := ∃ A n c, w.heap[g]? = some (.cells #[.slice A n c, .int .i64 err] 94 (0, 0)) ∧ Nums .u8 w A n c rest ∧ bnd g A n
def octS (rest : List Int) (err : Int) : Int × List Int × Int := if err ≠ 0 then (0, rest, err) else match rest with | [] => (0, [], 3) | b :: r => (b, r, 0)
def RetRd (k : IntKind) (w : World) (g : Nat) (r : Int × List Int × Int) (e : Ending) (w' : World) : Prop := e = .returned (.int k r.1) ∧ Rd w' g r.2.1 r.2.2 ∧ w.grownBy w' (some g)

theorem bnd.ne {g : Nat} {A : Option Addr} {n : Nat} (h : bnd g A n) : ∀ b o, A = some ⟨b, o, none⟩ → 0 < n → b ≠ g := fun b o hA hn => by have := h b o hA hn; omega
/-- bytes that are read stay while the reader's own block is written -/
theorem nums_far {w w' : World} {A : Option Addr} {n c g : Nat} {l : List Int} (h : Nums .u8 w A n c l) (hG : w.grownBy w' (some g)) (hne : ∀ b o, A = some ⟨b, o, none⟩ → 0 < n → b ≠ g) : Nums .u8 w' A n c l :=
  ⟨h.len, h.cap, h.mx, h.wf, fun hn => by
    obtain ⟨b, o, h1, h2, h3⟩ := h.at_ hn
    refine ⟨b, o, h1, Nat.lt_of_lt_of_le h2 hG.size, fun i hi => ?_⟩
    rw [← h3 i hi]
    exact World.cell?_of_block (hG.block b h2 (fun e => hne b o h1 hn (by injection e)))⟩
theorem grownBy_set (w : World) (g i : Nat) (u : Value) : w.grownBy (w.setCell ⟨g, i, none⟩ u) (some g) :=
  ⟨rfl, rfl, rfl, by simp [World.setCell], fun k _ hne => Below.heap_setCell w _ u k (fun e => hne (by rw [e]))⟩
theorem Nums.tail {w : World} {A : Option Addr} {n c : Nat} {x : Int} {l : List Int} {b o : Nat} (h : Nums .u8 w A n c (x :: l)) (hA : A = some ⟨b, o, none⟩) (A' : Option Addr) (hA' : 1 < n → A' = some ⟨b, o + 1, none⟩) : Nums .u8 w A' (n - 1) (c - 1) l := by
  have hl := h.len
  simp only [List.length_cons] at hl
  refine ⟨by omega, by have := h.cap; omega, by have := h.mx; omega, fun y hy => h.wf y (List.mem_cons_of_mem _ hy), fun hn => ?_⟩
  obtain ⟨b', o', h1, h2, h3⟩ := h.at_ (by omega)
  rw [hA] at h1
  injection h1 with h1
  injection h1 with e1 e2
  subst e1 e2
  refine ⟨b, o + 1, hA' (by omega), h2, fun i hi => ?_⟩
  have := h3 (i + 1) (by simp; exact hi)
  simp only [List.getElem_cons_succ] at this
  rw [← this]
  congr 2
  omega

set_option maxHeartbeats 1000000 in
theorem octet_c (g : Nat) (rest : List Int) (err : Int) (w : World) (h : Rd w g rest err) :
    Calls Try.prog 76 #[.pointer (some ⟨g, 0, none⟩)] w (RetRd .u8 w g (octS rest err)) := by
  obtain ⟨A, n, c, hg, hN, hbd⟩ := h
  have HBD := Lib.hid hbd
  clear hbd
  have hc0 : w.cell? ⟨g, 0, none⟩ = some (.slice A n c) := by rw [cell_of_row _ _ _ _ _ _ hg]; rfl
  have hc1 : w.cell? ⟨g, 1, none⟩ = some (.int .i64 err) := by rw [cell_of_row _ _ _ _ _ _ hg]; rfl
  have hf0 : w.frozen? ⟨g, 0, none⟩ = false := frozen_of_row _ _ _ _ _ hg
  have hf1 : w.frozen? ⟨g, 1, none⟩ = false := frozen_of_row _ _ _ _ _ hg
  have HG := Lib.hid hg
  clear hg
  have hm := hN.n63
  by_cases he : err = 0
  · have HE := Lib.hid he
    have hd : (err != 0) = false := by simp [he]
    clear he
    cases rest with
    | nil =>
      have h0 : n = 0 := by rw [← hN.len]; rfl
      have hz : ((n : Int) == 0) = true := by simp [h0]
      clear h0
      go_enter Try.func76, Try.ntmps76
      go_wp2
      go_ret
      refine ⟨ret_int (by simp [octS, HE.out]), ?_, grownBy_set _ _ _ _⟩
      simp only [octS, HE.out]
      exact ⟨A, n, c, by rw [heap_setCell_same _ _ _ _ _ _ HG.out]; rfl, nums_far hN (grownBy_set _ _ _ _) HBD.out.ne, HBD.out⟩
    | cons b r =>
      have hlen := hN.len
      simp only [List.length_cons] at hlen
      have hz : ((n : Int) == 0) = false := by simp; omega
      have hn1 : (1 : Int) ≤ (n : Int) := by omega
      have hn0 : (0 : Int) < (n : Int) := by omega
      have hcap := hN.cap
      have hcc := hN.c63
      obtain ⟨bb, o, x, rfl, hb, hx, hwx, hcx⟩ := hN.get (i := 0) (by omega)
      simp only [List.getElem?_cons_zero, Option.some.injEq] at hx
      subst hx
      rw [Nat.add_zero] at hcx
      have hbg : bb < g := HBD.out bb o rfl (by omega)
      have hne : bb ≠ g := by omega
      clear hlen
      by_cases hc1e : c = 1
      · subst hc1e
        go_enter Try.func76, Try.ntmps76
        go_wp2
        go_ret
        refine ⟨ret_int (by simp [octS, HE.out]), ?_, grownBy_set _ _ _ _⟩
        simp only [octS, HE.out]
        exact ⟨_, _, _, by rw [heap_setCell_same _ _ _ _ _ _ HG.out, HE.out]; rfl, nums_far (show Nums .u8 w (some ⟨bb, o, none⟩) 0 0 r from by have h1 := hN.tail rfl (some ⟨bb, o, none⟩) (fun h => by omega); rwa [show n - 1 = 0 by omega] at h1) (grownBy_set _ _ _ _) (fun b' o' hA hn => by injection hA with hA; injection hA with e1 e2; rw [← e1]; exact hne), fun b' o' hA hn => by injection hA with hA; injection hA with e1 e2; rw [← e1]; exact hbg⟩
      · go_enter Try.func76, Try.ntmps76
        go_wp2
        go_ret
        refine ⟨ret_int (by simp [octS, HE.out]), ?_, grownBy_set _ _ _ _⟩
        simp only [octS, HE.out]
        exact ⟨_, _, _, by rw [heap_setCell_same _ _ _ _ _ _ HG.out, HE.out]; rfl, nums_far (hN.tail rfl (some ⟨bb, o + 1, none⟩) (fun _ => rfl)) (grownBy_set _ _ _ _) (fun b' o' hA hn => by injection hA with hA; injection hA with e1 e2; rw [← e1]; exact hne), fun b' o' hA hn => by injection hA with hA; injection hA with e1 e2; rw [← e1]; exact hbg⟩
  · have hd : (err != 0) = true := by simpa using he
    go_enter Try.func76, Try.ntmps76
    go_wp2
    go_ret
    refine ⟨ret_int (by simp [octS, he]), ?_, World.grownBy.refl _ _⟩
    simp only [octS, he, ne_eq, not_false_eq_true, if_true]
    exact ⟨A, n, c, HG.out, hN, HBD.out⟩

def rdUS (rest : List Int) (err : Int) : Int × List Int × Int := if err ≠ 0 then (0, rest, err) else (((rdU 0 0 rest).1 : Int), (rdU 0 0 rest).2.1, (rdU 0 0 rest).2.2)
theorem Rd.cells {w : World} {g : Nat} {rest : List Int} {err : Int} (h : Rd w g rest err) : w.cell? ⟨g, 1, none⟩ = some (.int .i64 err) ∧ w.frozen? ⟨g, 1, none⟩ = false ∧ ∀ e2, Rd (w.setCell ⟨g, 1, none⟩ (.int .i64 e2)) g rest e2 := by
  obtain ⟨A, n, c, hg, hN, hbd⟩ := h
  refine ⟨by rw [cell_of_row _ _ _ _ _ _ hg]; rfl, frozen_of_row _ _ _ _ _ hg, fun e2 => ⟨A, n, c, by rw [heap_setCell_same _ _ _ _ _ _ hg]; rfl, nums_far hN (grownBy_set _ _ _ _) hbd.ne, hbd⟩⟩
theorem grownBy_trans {a b c : World} {row : Option Nat} (h : a.grownBy b row) (k : b.grownBy c row) : a.grownBy c row :=
  ⟨k.os.trans h.os, k.tape.trans h.tape, k.output.trans h.output, Nat.le_trans h.size k.size, fun i hi hne => (k.block i (Nat.lt_of_lt_of_le hi h.size) hne).trans (h.block i hi hne)⟩
theorem Rd.wf {w : World} {g : Nat} {b : Int} {rest : List Int} {err : Int} (h : Rd w g (b :: rest) err) : 0 ≤ b ∧ b ≤ 255 := by
  obtain ⟨A, n, c, hg, hN, _⟩ := h
  exact wf_u8 (hN.wf b List.mem_cons_self)

set_option maxHeartbeats 2000000 in
theorem rUint_c (g : Nat) (rest : List Int) (err : Int) (w : World) (h : Rd w g rest err) :
    Calls Try.prog 66 #[.pointer (some ⟨g, 0, none⟩)] w (RetRd .u64 w g (rdUS rest err)) := by
  by_cases he : err = 0
  · subst he
    go_enter Try.func66, Try.ntmps66
    go_wp2
    go_loopw [3, 4] (fun tn ti wr => ∃ (i m : Nat) (r : List Int), ti = .int .i64 i ∧ tn = .int .u64 m ∧ i ≤ 9 ∧ Hid (m < 128 ^ i) ∧ Rd wr g r 0 ∧ w.grownBy wr (some g) ∧ Hid (rdU i m r = rdU 0 0 rest)) (fun _ ti _ => 10 - (intOf ti).toNat)
    case atStart => exact ⟨0, 0, rest, rfl, rfl, by omega, show 0 < 128 ^ 0 by decide, h, World.grownBy.refl _ _, rfl⟩
    case round =>
      obtain ⟨i, m, r, rfl, rfl, hi, hm, hR, hG, hs⟩ := hrel
      cases r with
      | nil =>
        go_wp2_with fail
        refine (octet_c _ _ _ _ hR).mono ?_
        rintro e w1 ⟨rfl, hR1, hG1⟩
        obtain ⟨hc1, hf1, hset⟩ := hR1.cells
        simp only [octS, ne_eq, not_true_eq_false, if_false] at hc1
        go_wp2
        go_ret
        refine ⟨ret_int (by simp [rdUS, ← hs.out, rdU]), ?_, grownBy_trans hG hG1⟩
        simp only [rdUS, ← hs.out, rdU]
        exact hR1
      | cons b r =>
        obtain ⟨b0, b1⟩ := hR.wf
        go_wp2_with fail
        refine (octet_c _ _ _ _ hR).mono ?_
        rintro e w1 ⟨rfl, hR1, hG1⟩
        obtain ⟨hc1, hf1, hset⟩ := hR1.cells
        simp only [octS, ne_eq, not_true_eq_false, if_false] at hc1 hset hR1 ⊢
        have HSET := Lib.hid hset
        clear hset
        have hiI : (i : Int) ≤ 9 := by omega
        by_cases hbad : (i = 9 ∧ 1 < b) ∨ (0 < i ∧ b = 0)
        · have HF := Lib.hid (rdU_err (n := m) (r := r) hbad)
          by_cases h9 : i = 9
          · have h9b : ((i : Int) == 9) = true := by simp; omega
            by_cases h1b : 1 < b
            · clear hbad h9
              go_wp2
              go_ret
              refine ⟨ret_int (by simp [rdUS, ← hs.out, HF.out]), ?_, grownBy_trans (grownBy_trans hG hG1) (grownBy_set _ _ _ _)⟩
              simp only [rdUS, ← hs.out, HF.out]
              exact HSET.out 2
            · have hb0 : (b == 0) = true := by simp; omega
              have hi0 : (0 : Int) < (i : Int) := by omega
              have d1b : decide (1 < b) = false := by simpa using h1b
              clear hbad h9
              go_wp2
              go_ret
              refine ⟨ret_int (by simp [rdUS, ← hs.out, HF.out]), ?_, grownBy_trans (grownBy_trans hG hG1) (grownBy_set _ _ _ _)⟩
              simp only [rdUS, ← hs.out, HF.out]
              exact HSET.out 2
          · have h9b : ((i : Int) == 9) = false := by simp; omega
            have hb0 : (b == 0) = true := by simp; omega
            have hi0 : (0 : Int) < (i : Int) := by omega
            clear hbad h9
            go_wp2
            go_ret
            refine ⟨ret_int (by simp [rdUS, ← hs.out, HF.out]), ?_, grownBy_trans (grownBy_trans hG hG1) (grownBy_set _ _ _ _)⟩
            simp only [rdUS, ← hs.out, HF.out]
            exact HSET.out 2
        · have hsl := shift_lt (i := i) b0 hm.out hi (fun h => hbad (.inl h))
          have HO := Lib.hid (or_shift b m i b0 b1 hm.out hsl.1)
          have HSL := Lib.hid hsl
          clear hsl
          have hz0 : (0 : Int) < (i : Int) → (b == 0) = false := fun h => by simp; omega
          by_cases h128 : b < 128
          · have HF := Lib.hid (rdU_last (n := m) (r := r) b0 hbad h128)
            by_cases h9 : i = 9
            · have h9b : ((i : Int) == 9) = true := by simp; omega
              have h1b : ¬ 1 < b := fun h => hbad (.inl ⟨h9, h⟩)
              have d1b : decide (1 < b) = false := by simpa using h1b
              have hi0 : (0 : Int) < (i : Int) := by omega
              have hb0 := hz0 hi0
              clear hbad h9 hz0
              go_wp2
              go_ret
              refine ⟨ret_int (by simp only [rdUS, ← hs.out, HF.out]; exact HO.out), ?_, grownBy_trans hG hG1⟩
              simp only [rdUS, ← hs.out, HF.out]
              exact hR1
            · have h9b : ((i : Int) == 9) = false := by simp; omega
              by_cases hi0 : (0 : Int) < (i : Int)
              · have hb0 := hz0 hi0
                clear hbad h9 hz0
                go_wp2
                go_ret
                refine ⟨ret_int (by simp only [rdUS, ← hs.out, HF.out]; exact HO.out), ?_, grownBy_trans hG hG1⟩
                simp only [rdUS, ← hs.out, HF.out]
                exact hR1
              · have di0 : decide ((0 : Int) < (i : Int)) = false := by simpa using hi0
                clear hbad h9 hz0
                go_wp2
                go_ret
                refine ⟨ret_int (by simp only [rdUS, ← hs.out, HF.out]; exact HO.out), ?_, grownBy_trans hG hG1⟩
                simp only [rdUS, ← hs.out, HF.out]
                exact hR1
          · have HF := Lib.hid (rdU_more (n := m) (r := r) hbad h128)
            have h9 : i ≠ 9 := fun h => hbad (.inl ⟨h, by omega⟩)
            have h9b : ((i : Int) == 9) = false := by simp; omega
            have hi8 : i < 9 := by omega
            have H9 := Lib.hid h9
            clear hbad hz0 h9
            have hb0 : (b == 0) = false := by simp; omega
            by_cases hi0 : (0 : Int) < (i : Int)
            · go_wp2
              go_roundw
              case rel => exact ⟨i + 1, _, r, by go_num, congrArg (Value.int .u64) HO.out, by omega, HSL.out.2 H9.out, hR1, grownBy_trans hG hG1, show _ = _ by rw [← hs.out, HF.out]⟩
              case measure => simp [intOf]; omega
            · have di0 : decide ((0 : Int) < (i : Int)) = false := by simpa using hi0
              go_wp2
              go_roundw
              case rel => exact ⟨i + 1, _, r, by go_num, congrArg (Value.int .u64) HO.out, by omega, HSL.out.2 H9.out, hR1, grownBy_trans hG hG1, show _ = _ by rw [← hs.out, HF.out]⟩
              case measure => simp [intOf]; omega
  · have hd : (err != 0) = true := by simpa using he
    go_enter Try.func66, Try.ntmps66
    go_wp2
    refine wp_loop_rounds 1 ?_; rw [rounds_succ]
    go_wp2_with fail
    refine (octet_c _ _ _ _ h).mono ?_
    rintro e w1 ⟨rfl, hR1, hG1⟩
    have e1 : octS rest err = (0, rest, err) := by simp [octS, he]
    rw [e1] at hR1
    obtain ⟨hc1, hf1, hset⟩ := hR1.cells
    clear hset e1
    go_wp2
    go_ret
    refine ⟨ret_int (by simp [rdUS, he]), ?_, hG1⟩
    simp only [rdUS, he, ne_eq, not_false_eq_true, if_true]
    exact hR1
end Go.Proofs.Ytpbkfpkgbfifaaa
