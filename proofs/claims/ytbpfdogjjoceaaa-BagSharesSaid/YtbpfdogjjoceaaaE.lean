/- Contracts of Add, Sub, Covers, Join, Meet. -/
import Derived.Test.YtbpfdogjjoceaaaD
namespace Go.Proofs.Ytbpfdogjjoceaaa
open Go.RowKit

set_option maxHeartbeats 400000 in
theorem add_c (A1 A2 : Option Addr) (n1 c1 n2 c2 : Nat) (l1 l2 : List Int) (w : World) (h1 : Nums .i64 w A1 n1 c1 l1) (h2 : Nums .i64 w A2 n2 c2 l2) :
    Calls Try.prog 22 #[.slice A1 n1 c1, .slice A2 n2 c2] w (RetOwnErr .i64 3 w (addS l1 l2)) := by
  cases hf : fitB l1 l2
  · have HT := Lib.hid (show addS l1 l2 = ([], 1) by rw [addS, hf]; rfl)
    go_enter Try.func22, Try.ntmps22
    go_wp2_with (go_at_call 53; refine (areBags_c _ _ _ _ _ _ _ _ _ h1 h2).mono ?_; rintro e w' ⟨rfl, rfl⟩)
    go_ret2
    exact RetOwnErr.mk_ HT.out (Own.nil _ _ _ _) (E.refl _)
  · have hn : n1 = n2 := by have := fit_len hf; have := h1.len; have := h2.len; omega
    subst hn
    have HT := Lib.hid (show addS l1 l2 = combF (fun x y => lim1 (x + y)) l1 l2 by rw [addS, hf]; rfl)
    go_enter Try.func22, Try.ntmps22
    go_wp2_with (go_at_call 53; refine (areBags_c _ _ _ _ _ _ _ _ _ h1 h2).mono ?_; rintro e w' ⟨rfl, rfl⟩)
    refine (combine_c 55 [] (fun x y => lim1 (x + y)) _ _ _ _ _ _ _ _ h1 h2 Try.call55 (fit_a hf) (fit_b hf) ?_ ?_).mono ?_
    · intro x y wr hEr x0 x1 y0 y1
      exact add1_c x y wr x0 x1 y0 y1
    · intro x y x0 x1 y0 y1
      exact lim1_ok (by omega) (by omega)
    · rintro e w' ⟨A', n', c', rfl, hO, hE⟩
      go_wp2
      go_ret2
      exact RetOwnErr.mk_ HT.out hO hE

set_option maxHeartbeats 400000 in
theorem sub_c (A1 A2 : Option Addr) (n1 c1 n2 c2 : Nat) (l1 l2 : List Int) (w : World) (h1 : Nums .i64 w A1 n1 c1 l1) (h2 : Nums .i64 w A2 n2 c2 l2) :
    Calls Try.prog 34 #[.slice A1 n1 c1, .slice A2 n2 c2] w (RetOwnErr .i64 3 w (subS l1 l2)) := by
  cases hf : fitB l1 l2
  · have HT := Lib.hid (show subS l1 l2 = ([], 1) by rw [subS, hf]; rfl)
    go_enter Try.func34, Try.ntmps34
    go_wp2_with (go_at_call 53; refine (areBags_c _ _ _ _ _ _ _ _ _ h1 h2).mono ?_; rintro e w' ⟨rfl, rfl⟩)
    go_ret2
    exact RetOwnErr.mk_ HT.out (Own.nil _ _ _ _) (E.refl _)
  · have hn : n1 = n2 := by have := fit_len hf; have := h1.len; have := h2.len; omega
    subst hn
    have HT := Lib.hid (show subS l1 l2 = combF sub1 l1 l2 by rw [subS, hf]; rfl)
    go_enter Try.func34, Try.ntmps34
    go_wp2_with (go_at_call 53; refine (areBags_c _ _ _ _ _ _ _ _ _ h1 h2).mono ?_; rintro e w' ⟨rfl, rfl⟩)
    refine (combine_c 60 [] sub1 _ _ _ _ _ _ _ _ h1 h2 Try.call60 (fit_a hf) (fit_b hf) ?_ ?_).mono ?_
    · intro x y wr hEr x0 x1 y0 y1
      exact sub1_c x y wr x0 x1 y0 y1
    · intro x y x0 x1 y0 y1
      exact sub1_ok x0 y0 x1
    · rintro e w' ⟨A', n', c', rfl, hO, hE⟩
      go_wp2
      go_ret2
      exact RetOwnErr.mk_ HT.out hO hE

set_option maxHeartbeats 400000 in
theorem join_c (A1 A2 : Option Addr) (n1 c1 n2 c2 : Nat) (l1 l2 : List Int) (w : World) (h1 : Nums .i64 w A1 n1 c1 l1) (h2 : Nums .i64 w A2 n2 c2 l2) :
    Calls Try.prog 32 #[.slice A1 n1 c1, .slice A2 n2 c2] w (RetOwn .i64 3 w (joinS l1 l2)) := by
  cases hf : fitB l1 l2
  · have HT := Lib.hid (show joinS l1 l2 = [] by rw [joinS, hf]; rfl)
    go_enter Try.func32, Try.ntmps32
    go_wp2_with (go_at_call 53; refine (areBags_c _ _ _ _ _ _ _ _ _ h1 h2).mono ?_; rintro e w' ⟨rfl, rfl⟩)
    go_ret
    exact RetOwn.mk_ HT.out (Own.nil _ _ _ _) (E.refl _)
  · have hn : n1 = n2 := by have := fit_len hf; have := h1.len; have := h2.len; omega
    subst hn
    have HT := Lib.hid (show joinS l1 l2 = (combF (fun x y => (max x y, 0)) l1 l2).1 by rw [joinS, hf]; rfl)
    go_enter Try.func32, Try.ntmps32
    go_wp2_with (go_at_call 53; refine (areBags_c _ _ _ _ _ _ _ _ _ h1 h2).mono ?_; rintro e w' ⟨rfl, rfl⟩)
    refine (combine_c 58 [] (fun x y => (max x y, 0)) _ _ _ _ _ _ _ _ h1 h2 Try.call58 (fit_a hf) (fit_b hf) ?_ ?_).mono ?_
    · intro x y wr hEr x0 x1 y0 y1
      exact join1_c x y wr
    · intro x y x0 x1 y0 y1
      exact ⟨by simp only; omega, by simp only; omega⟩
    · rintro e w' ⟨A', n', c', rfl, hO, hE⟩
      go_wp2
      go_ret
      exact RetOwn.mk_ HT.out hO hE

set_option maxHeartbeats 400000 in
theorem meet_c (A1 A2 : Option Addr) (n1 c1 n2 c2 : Nat) (l1 l2 : List Int) (w : World) (h1 : Nums .i64 w A1 n1 c1 l1) (h2 : Nums .i64 w A2 n2 c2 l2) :
    Calls Try.prog 33 #[.slice A1 n1 c1, .slice A2 n2 c2] w (RetOwn .i64 3 w (meetS l1 l2)) := by
  cases hf : fitB l1 l2
  · have HT := Lib.hid (show meetS l1 l2 = [] by rw [meetS, hf]; rfl)
    go_enter Try.func33, Try.ntmps33
    go_wp2_with (go_at_call 53; refine (areBags_c _ _ _ _ _ _ _ _ _ h1 h2).mono ?_; rintro e w' ⟨rfl, rfl⟩)
    go_ret
    exact RetOwn.mk_ HT.out (Own.nil _ _ _ _) (E.refl _)
  · have hn : n1 = n2 := by have := fit_len hf; have := h1.len; have := h2.len; omega
    subst hn
    have HT := Lib.hid (show meetS l1 l2 = (combF (fun x y => (min x y, 0)) l1 l2).1 by rw [meetS, hf]; rfl)
    go_enter Try.func33, Try.ntmps33
    go_wp2_with (go_at_call 53; refine (areBags_c _ _ _ _ _ _ _ _ _ h1 h2).mono ?_; rintro e w' ⟨rfl, rfl⟩)
    refine (combine_c 59 [] (fun x y => (min x y, 0)) _ _ _ _ _ _ _ _ h1 h2 Try.call59 (fit_a hf) (fit_b hf) ?_ ?_).mono ?_
    · intro x y wr hEr x0 x1 y0 y1
      exact meet1_c x y wr
    · intro x y x0 x1 y0 y1
      exact ⟨by simp only; omega, by simp only; omega⟩
    · rintro e w' ⟨A', n', c', rfl, hO, hE⟩
      go_wp2
      go_ret
      exact RetOwn.mk_ HT.out hO hE

/-- a bool is handed back; nothing that was there has turned -/
def RetB (w : World) (b : Bool) (e : Ending) (w' : World) : Prop := e = .returned (.bool b) ∧ E w w'
theorem RetB.mk_ {w w' : World} {a b : Bool} (h : a = b) (hE : E w w') : RetB w a (.returned (.bool b)) w' := ⟨by rw [h], hE⟩

set_option maxHeartbeats 400000 in
theorem covers_c (A1 A2 : Option Addr) (n1 c1 n2 c2 : Nat) (l1 l2 : List Int) (w : World) (h1 : Nums .i64 w A1 n1 c1 l1) (h2 : Nums .i64 w A2 n2 c2 l2) :
    Calls Try.prog 21 #[.slice A1 n1 c1, .slice A2 n2 c2] w (RetB w (decide ((subS l1 l2).2 = 0))) := by
  by_cases h0 : (subS l1 l2).2 = 0
  · have hb : ((subS l1 l2).2 == 0) = true := by simpa using h0
    have H0 := Lib.hid h0
    clear h0
    go_enter Try.func21, Try.ntmps21
    go_wp2_with (go_at_call 34; refine (sub_c _ _ _ _ _ _ _ _ _ h1 h2).mono ?_; rintro e w' ⟨A', n', c', rfl, hO, hE⟩)
    go_ret
    exact RetB.mk_ (by simpa using H0.out) hE
  · have hb : ((subS l1 l2).2 == 0) = false := by simpa using h0
    go_enter Try.func21, Try.ntmps21
    go_wp2_with (go_at_call 34; refine (sub_c _ _ _ _ _ _ _ _ _ h1 h2).mono ?_; rintro e w' ⟨A', n', c', rfl, hO, hE⟩)
    go_ret
    exact RetB.mk_ (by simpa using h0) hE
end Go.Proofs.Ytbpfdogjjoceaaa
