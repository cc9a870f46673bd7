/- slices.Clone of bytes; Done. -/
import Derived.Test.YtpbkfpkgbfifaaaH
import Derived.Test.YtpbkfpkgbfifaaaLN
namespace Go.Proofs.Ytpbkfpkgbfifaaa
open Go.RowKit

set_option maxHeartbeats 400000 in
theorem cloneB_c (A : Option Addr) (n c : Nat) (l : List Int) (w : World) (h : Nums .u8 w A n c l) (hn : n ≤ 1099511627776) :
    Calls Try.prog 64 #[.slice A n c] w (RetOwn .u8 5 w l) := by
  rcases A with _ | ad
  · have h0 : n = 0 := by
      rcases Nat.eq_zero_or_pos n with h0 | h0
      · exact h0
      · obtain ⟨_, _, hh, _⟩ := h.at_ h0; cases hh
    have hl : l = [] := List.eq_nil_of_length_eq_zero (by rw [h.len, h0])
    have HL := Lib.hid hl
    clear h0 hl hn
    have hnil : ∀ W : World, (binOp .eql 58 (.slice none n c) (.slice none 0 0)).run Try.prog W = .ok (.bool true) W := fun W => Lib.run_eql_slice_nil W _ _ _ _ _ _ _ Try.underlying58
    go_enter Try.func64, Try.ntmps64
    go_wp2
    go_ret
    exact RetOwn.mk_ HL.out (Own.nil _ _ _ _) (E.refl _)
  · have hE := (E.refl w).alloc (.cells #[] 5)
    have h' := h.e hE
    have HN := Lib.hid hn
    clear hn
    have hnil : ∀ W : World, (binOp .eql 58 (.slice (some ad) n c) (.slice none 0 0)).run Try.prog W = .ok (.bool false) W := fun W => Lib.run_eql_slice_nil W _ _ _ _ _ _ _ Try.underlying58
    go_enter Try.func64, Try.ntmps64
    go_wp2_with (at_builtin; refine wpList_appN byteT _ rfl _ _ rfl w.heap.size _ _ _ [] rfl (Own.empty w _ _) _ _ _ l rfl h' (by have := HN.out; omega) (by simp) ?_; intro A' c' w1 hO hG hB)
    go_ret
    exact RetOwn.mk_ rfl (by simpa using hO) (hE.up hB)

set_option maxHeartbeats 400000 in
theorem wDone_c (g base : Nat) (l : List Int) (w : World) (hW : Wr w base g l) (hl : l.length ≤ 1099511627776) :
    Calls Try.prog 63 #[.pointer (some ⟨g, 0, none⟩)] w (RetOwn .u8 5 w l) := by
  obtain ⟨hb, A, n, c, hg, hO⟩ := hW
  have hc0 : w.cell? ⟨g, 0, none⟩ = some (.slice A n c) := by rw [cell_of_row _ _ _ _ _ _ hg]; rfl
  have HN := Lib.hid (show n ≤ 1099511627776 by rw [← hO.1]; exact hl)
  clear hg hl
  go_enter Try.func63, Try.ntmps63
  go_wp2_with (go_at_call 64; refine (cloneB_c _ _ _ _ _ hO.reads HN.out).mono ?_; rintro e w' ⟨A', n', c', rfl, hO', hE'⟩)
  go_ret
  exact RetOwn.mk_ rfl hO' hE'

theorem Wr.new (w : World) : Wr (w.alloc (.cells #[.slice none 0 0] 90)) w.heap.size w.heap.size [] := ⟨Nat.le_refl _, none, 0, 0, heap_alloc_new w _, Own.nil _ _ _ _⟩
theorem len_app_le {a : List Int} {m : Nat} {v : Int} (h : a.length ≤ m) (h1 : -9223372036854775808 ≤ v) (h2 : v ≤ 9223372036854775807) : (a ++ uv (zig v)).length ≤ m + 10 := by
  have := uv_len10 (zig_lt v h1 h2); simp; omega
theorem wf_u8 {x : Int} (h : (Lit.int .u8 x).wf = true) : 0 ≤ x ∧ x ≤ 255 := by
  have h' : IntKind.u8.min ≤ x ∧ x ≤ IntKind.u8.max := by simpa [Lit.wf] using h
  have e : IntKind.u8.min = 0 := by decide
  have e2 : IntKind.u8.max = 255 := by decide
  rw [e, e2] at h'; exact h'
end Go.Proofs.Ytpbkfpkgbfifaaa
