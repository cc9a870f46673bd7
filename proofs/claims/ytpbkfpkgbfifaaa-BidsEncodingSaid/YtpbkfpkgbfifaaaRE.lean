/- Int and End of the reader; Read. -/
import Derived.Test.YtpbkfpkgbfifaaaRD
namespace Go.Proofs.Ytpbkfpkgbfifaaa
open Go.RowKit

set_option maxHeartbeats 1000000 in
theorem unzigzag_c (z : Nat) (w : World) (hz : z < 18446744073709551616) :
    Calls Try.prog 65 #[.int .u64 z] w fun e w' => e = .returned (.int .i64 (unzig z)) ∧ w = w' := by
  have HZ := Lib.hid (unzig_bits z hz)
  clear hz
  go_enter Try.func65, Try.ntmps65
  go_wp2
  go_ret
  exact ⟨ret_int HZ.out, rfl⟩

def rdIS (rest : List Int) (err : Int) : Int × List Int × Int := (unzig (rdUS rest err).1.toNat, (rdUS rest err).2.1, (rdUS rest err).2.2)
theorem Rd.bytes {w : World} {g : Nat} {rest : List Int} {err : Int} (h : Rd w g rest err) : ∀ x ∈ rest, 0 ≤ x ∧ x ≤ 255 := by
  obtain ⟨A, n, c, hg, hN, _⟩ := h
  exact fun x hx => wf_u8 (hN.wf x hx)
theorem rdU_fits {l : List Int} (hb : ∀ x ∈ l, 0 ≤ x ∧ x ≤ 255) : ∀ (i n : Nat), i ≤ 9 → n < 128 ^ i → (rdU i n l).1 < 18446744073709551616 := by
  induction l with
  | nil => intro i n _ _; simp [rdU]
  | cons b l ih =>
    intro i n hi hn
    have hb0 := hb b List.mem_cons_self
    by_cases hbad : (i = 9 ∧ 1 < b) ∨ (0 < i ∧ b = 0)
    · rw [rdU_err hbad]; simp
    · have hsl := shift_lt (i := i) hb0.1 hn hi (fun h => hbad (.inl h))
      by_cases h128 : b < 128
      · rw [rdU_last hb0.1 hbad h128]; exact hsl.1
      · rw [rdU_more hbad h128]
        have h9 : i ≠ 9 := fun h => hbad (.inl ⟨h, by omega⟩)
        exact ih (fun x hx => hb x (List.mem_cons_of_mem _ hx)) (i + 1) _ (by omega) (hsl.2 h9)
theorem rdUS_nat {rest : List Int} {err : Int} (hb : ∀ x ∈ rest, 0 ≤ x ∧ x ≤ 255) : ∃ z : Nat, (rdUS rest err).1 = (z : Int) ∧ z < 18446744073709551616 := by
  unfold rdUS
  split
  · exact ⟨0, rfl, by omega⟩
  · exact ⟨_, rfl, rdU_fits hb 0 0 (by omega) (by decide)⟩

set_option maxHeartbeats 1000000 in
theorem rInt_c (g : Nat) (rest : List Int) (err : Int) (w : World) (h : Rd w g rest err) :
    Calls Try.prog 43 #[.pointer (some ⟨g, 0, none⟩)] w (RetRd .i64 w g (rdIS rest err)) := by
  obtain ⟨z, hz, hzl⟩ := rdUS_nat (err := err) h.bytes
  have HZ := Lib.hid hz
  have HL := Lib.hid hzl
  clear hz hzl
  go_enter Try.func43, Try.ntmps43
  go_wp2_with fail
  refine (rUint_c _ _ _ _ h).mono ?_
  rintro e w1 ⟨rfl, hR1, hG1⟩
  rw [HZ.out]
  go_wp2_with (go_at_call 65; refine (unzigzag_c _ _ HL.out).mono ?_; rintro e w' ⟨rfl, rfl⟩)
  go_ret
  exact ⟨ret_int (by simp [rdIS, HZ.out]), hR1, hG1⟩

def endS (rest : List Int) (err : Int) : Int := if err ≠ 0 then err else if rest = [] then 0 else 2
set_option maxHeartbeats 1000000 in
theorem rEnd_c (g : Nat) (rest : List Int) (err : Int) (w : World) (h : Rd w g rest err) :
    Calls Try.prog 44 #[.pointer (some ⟨g, 0, none⟩)] w fun e w' => e = .returned (.int .i64 (endS rest err)) ∧ w = w' := by
  obtain ⟨A, n, c, hg, hN, _⟩ := h
  have hc0 : w.cell? ⟨g, 0, none⟩ = some (.slice A n c) := by rw [cell_of_row _ _ _ _ _ _ hg]; rfl
  have hc1 : w.cell? ⟨g, 1, none⟩ = some (.int .i64 err) := by rw [cell_of_row _ _ _ _ _ _ hg]; rfl
  clear hg
  have hlen := hN.len
  by_cases he : err = 0
  · have hd : (err != 0) = false := by simp [he]
    by_cases hn : (0 : Int) < (n : Int)
    · have HF := Lib.hid (show endS rest err = 2 by
        have : rest ≠ [] := fun h => by rw [h] at hlen; simp at hlen; omega
        simp [endS, he, this])
      clear he hlen
      go_enter Try.func44, Try.ntmps44
      go_wp2
      go_ret
      exact ⟨ret_int HF.out.symm, rfl⟩
    · have HF := Lib.hid (show endS rest err = 0 by
        have : rest = [] := List.eq_nil_of_length_eq_zero (by omega)
        simp [endS, he, this])
      clear he hlen
      go_enter Try.func44, Try.ntmps44
      go_wp2
      go_ret
      exact ⟨ret_int HF.out.symm, rfl⟩
  · have hd : (err != 0) = true := by simpa using he
    have HF := Lib.hid (show endS rest err = err by simp [endS, he])
    clear he hlen
    go_enter Try.func44, Try.ntmps44
    go_wp2
    go_ret
    exact ⟨ret_int HF.out.symm, rfl⟩

def RetReader (w : World) (l : List Int) (e : Ending) (w' : World) : Prop := ∃ g, e = .returned (.pointer (some ⟨g, 0, none⟩)) ∧ Rd w' g l 0 ∧ w.heap.size ≤ g ∧ E w w'
set_option maxHeartbeats 1000000 in
theorem read_c (A : Option Addr) (n c : Nat) (l : List Int) (w : World) (h : Nums .u8 w A n c l) (hn : n ≤ 1099511627776) :
    Calls Try.prog 40 #[.slice A n c] w (RetReader w l) := by
  have HN := Lib.hid hn
  clear hn
  go_enter Try.func40, Try.ntmps40
  go_wp2_with (go_at_call 64; refine (cloneB_c _ _ _ _ _ h HN.out).mono ?_; rintro e w1 ⟨A1, n1, c1, rfl, hO, hE⟩)
  go_ret
  refine ⟨w1.heap.size, rfl, ⟨A1, n1, c1, heap_alloc_new w1 _, hO.reads.e ((E.refl w1).alloc _), fun b o hA hn => ?_⟩, hE.le, hE.alloc _⟩
  rcases hO.form with ⟨rfl, _⟩ | ⟨g, rfl, _, hlt, _⟩
  · cases hA
  · injection hA with hA; injection hA with e1 e2; omega
end Go.Proofs.Ytpbkfpkgbfifaaa
