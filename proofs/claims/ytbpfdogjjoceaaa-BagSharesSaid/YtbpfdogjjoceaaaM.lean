/- Encode. -/
import Derived.Test.YtbpfdogjjoceaaaMW
import Derived.Test.YtbpfdogjjoceaaaG
namespace Go.Proofs.Ytbpfdogjjoceaaa
open Go.RowKit

def encF : List (Int × Int) → List Int
  | [] => []
  | (x, y) :: l => uv (zig x) ++ uv (zig y) ++ encF l
def encodeS (l : List Int) : List Int := if isBagB l then uv (zig l.length) ++ uv (zig (amountsS l).length) ++ encF (amountsS l) else []
theorem encF_step {l : List (Int × Int)} {k : Nat} {x y : Int} (h : l[k]? = some (x, y)) : encF (l.drop k) = uv (zig x) ++ uv (zig y) ++ encF (l.drop (k + 1)) := by rw [drop_at h]; rfl
theorem amF_len : ∀ (l : List Int) (i : Nat), (amF i l).length ≤ l.length
  | [], _ => by simp [amF]
  | x :: l, i => by
    have := amF_len l (i + 1)
    simp only [amF]; split <;> simp <;> omega
theorem encF_len : ∀ (l : List (Int × Int)), (∀ x ∈ l, (Lit.int .i64 x.1).wf = true ∧ (Lit.int .i64 x.2).wf = true) → (encF l).length ≤ 20 * l.length
  | [], _ => by simp [encF]
  | (x, y) :: l, h => by
    have h1 := encF_len l (fun z hz => h z (List.mem_cons_of_mem _ hz))
    have h2 := h (x, y) List.mem_cons_self
    have h3 := wf_i64 h2.1
    have h4 := wf_i64 h2.2
    have h5 := uv_len10 (zig_lt x h3.1 h3.2)
    have h6 := uv_len10 (zig_lt y h4.1 h4.2)
    simp only [encF, List.length_append, List.length_cons]; omega

set_option maxHeartbeats 1000000 in
theorem encode_c (A : Option Addr) (n c : Nat) (l : List Int) (w : World) (h : Nums .i64 w A n c l) :
    Calls Try.prog 39 #[.slice A n c] w (RetOwn .u8 5 w (encodeS l)) := by
  have hm := h.n63
  cases hbag : isBagB l
  · have HT := Lib.hid (show encodeS l = [] by simp [encodeS, hbag])
    go_enter Try.func39, Try.ntmps39
    go_wp2_with (go_at_call 49; refine (isBag_c _ _ _ _ _ h).mono ?_; rintro e w' ⟨rfl, rfl⟩)
    go_ret
    exact RetOwn.mk_ HT.out (Own.nil _ _ _ _) (E.refl _)
  · have HT := Lib.hid (show encodeS l = uv (zig n) ++ uv (zig (amountsS l).length) ++ encF (amountsS l) by simp [encodeS, hbag, h.len])
    have hn64 : n ≤ 64 := by have := isBag_len hbag; rw [h.len] at this; exact this
    have ha64 : (amountsS l).length ≤ 64 := by
      have := amF_len l 0; rw [h.len] at this; simp [amountsS, hbag]; omega
    go_enter Try.func39, Try.ntmps39
    go_wp2_with (first
      | (go_at_call 49; refine (isBag_c _ _ _ _ _ h).mono ?_; rintro e w' ⟨rfl, rfl⟩)
      | (go_at_call 28; refine (amounts_c _ _ _ _ _ h).mono ?_; rintro e w1 ⟨A1, m, c1, rfl, hP, hE1⟩))
    have hm1 : m = (amountsS l).length := hP.1.symm
    have hP0 := hP.reads
    have hEa := (E.refl w1).alloc (.cells #[.slice none 0 0] 71)
    refine (wInt_c n _ w1.heap.size [] _ (Wr.new w1) (by omega) (by omega) (by simp) (by simp)).mono ?_
    rintro e w2 ⟨rfl, hW2, hB2⟩
    have hE2 := hEa.up hB2.1
    rw [List.nil_append] at hW2
    have hl2 := uv_len10 (zig_lt n (by omega) (by omega))
    have hm64 : m ≤ 64 := by omega
    have HM := Lib.hid hm1
    clear hm1
    have hm63 := hP0.n63
    go_wp2_with fail
    refine (wInt_c m _ w1.heap.size _ _ hW2 (by omega) (by omega) (by omega) hE2.le).mono ?_
    rintro e w3 ⟨rfl, hW3, hB3⟩
    have hE3 := hE2.up hB3.1
    have hl3 := len_app_le (v := m) hl2 (by omega) (by omega)
    go_wp2
    go_loopw [24] (fun i wr => ∃ (k : Nat) (out : List Int), k ≤ m ∧ i = .int .i64 k ∧ Wr wr w1.heap.size w1.heap.size out ∧ Hid (out.length ≤ 20 + 20 * k) ∧ E w1 wr ∧ Hid (out ++ encF ((amountsS l).drop k) = encodeS l)) (fun i _ => m - (intOf i).toNat)
    case atStart => exact ⟨0, _, Nat.zero_le _, rfl, hW3, hl3, hE3, show _ = _ by rw [HT.out, HM.out]; rfl⟩
    case round =>
      obtain ⟨k, out, hk, rfl, hW, hol, hE, hs⟩ := hrel
      by_cases hlt : k < m
      · obtain ⟨b, o, x, y, rfl, hb, hx, hwx, hwy, hc1, hc2⟩ := (hP0.e hE).get hlt
        have HX := Lib.hid (encF_step hx)
        have bx := wf_i64 hwx
        have hby' := wf_i64 hwy
        have HBX := Lib.hid bx
        have HBY := Lib.hid hby'
        clear hx hwx hwy bx hby'
        have hEb := hE.alloc (.cells #[.int .i64 x, .int .i64 y] 67)
        go_wp2_with fail
        refine (wInt_c x _ w1.heap.size _ _ (hW.e ((E.refl _).alloc _)) HBX.out.1 HBX.out.2 (by have := hol.out; omega) hEb.le).mono ?_
        rintro e w4 ⟨rfl, hW4, hB4⟩
        have hE4 := hEb.up hB4.1
        have hgb : w4.heap[wr.heap.size]? = some (.cells #[.int .i64 x, .int .i64 y] 67 (0, 0)) := by
          rw [hB4.2 wr.heap.size (by simp) (by have := blk_lt hW.2.choose_spec.choose_spec.choose_spec.1; omega) (by rw [heap_alloc_new]; intro cs fr hh; injection hh with hh; injection hh with _ ht; exact absurd ht (by decide))]
          exact heap_alloc_new wr _
        have hcy : w4.cell? ⟨wr.heap.size, 1, none⟩ = some (.int .i64 y) := by rw [cell_of_row _ _ _ _ _ _ hgb]; rfl
        have hl4 := len_app_le (v := x) (Nat.le_refl out.length) HBX.out.1 HBX.out.2
        clear hgb
        go_wp2_with fail
        refine (wInt_c y _ w1.heap.size _ _ hW4 HBY.out.1 HBY.out.2 (by have := hol.out; omega) hE4.le).mono ?_
        rintro e w5 ⟨rfl, hW5, hB5⟩
        have hl5 := len_app_le (v := y) hl4 HBY.out.1 HBY.out.2
        go_wp2
        go_roundw
        case rel => exact ⟨k + 1, _, by omega, by go_num, hW5, show _ ≤ _ by have := hol.out; omega, hE4.up hB5.1, show _ = _ by rw [← hs.out, HX.out]; simp⟩
        case measure => simp [intOf]; omega
      · have HF := Lib.hid (show encodeS l = out by rw [← hs.out, drop_end hP.1 (by omega)]; simp [encF])
        go_wp2_with (go_at_call 62; refine (wDone_c _ _ _ _ hW (by have := hol.out; omega)).mono ?_; rintro e w' ⟨A', n', c', rfl, hO', hE'⟩)
        go_ret
        exact RetOwn.mk_ HF.out (hO'.rebase (by have := hE.le; have := hE1.le; omega)) ((hE1.trans hE).trans hE')
end Go.Proofs.Ytbpfdogjjoceaaa
