/- Many slices that are read at once; the tools of straight walks. -/
import Derived.Test.YtbpfdogjjoceaaaO
import Derived.Test.YtbpfdogjjoceaaaPQ
import Derived.Deep.RegionHeld3
namespace Go.Proofs.Ytbpfdogjjoceaaa
open Go.RowKit

def Env (w : World) (L : List (Option Addr × Nat × Nat × List Int)) : Prop := ∀ s ∈ L, Nums .i64 w s.1 s.2.1 s.2.2.1 s.2.2.2
theorem Env.nil (w : World) : Env w [] := fun _ h => by cases h
theorem Env.e {w w' : World} {L : List (Option Addr × Nat × Nat × List Int)} (h : Env w L) (he : E w w') : Env w' L := fun s hs => (h s hs).e he
theorem Env.add {w : World} {L : List (Option Addr × Nat × Nat × List Int)} (h : Env w L) {A : Option Addr} {n c : Nat} {l : List Int} (hN : Nums .i64 w A n c l) : Env w ((A, n, c, l) :: L) := by
  intro s hs
  cases hs with
  | head => exact hN
  | tail _ h' => exact h s h'
theorem Env.at {w : World} {L : List (Option Addr × Nat × Nat × List Int)} (h : Env w L) {A : Option Addr} {n c : Nat} {l : List Int} (hm : (A, n, c, l) ∈ L) : Nums .i64 w A n c l := h _ hm

theorem sKeep {N : Nat} {w0 w1 w2 : World} (h : N ≤ w1.heap.size ∧ ∀ b o, b < N → w1.cell? ⟨b, o, none⟩ = w0.cell? ⟨b, o, none⟩) (hE : E w1 w2) : N ≤ w2.heap.size ∧ ∀ b o, b < N → w2.cell? ⟨b, o, none⟩ = w0.cell? ⟨b, o, none⟩ :=
  ⟨Nat.le_trans h.1 hE.le, fun b o hb => (hE.cell (p := ⟨b, o, none⟩) (by have := h.1; show b < _; omega)).trans (h.2 b o hb)⟩
theorem sKeepB {N : Nat} {w0 w1 w2 : World} (h : N ≤ w1.heap.size ∧ ∀ b o, b < N → w1.cell? ⟨b, o, none⟩ = w0.cell? ⟨b, o, none⟩) (hB : Below N w1 w2) : N ≤ w2.heap.size ∧ ∀ b o, b < N → w2.cell? ⟨b, o, none⟩ = w0.cell? ⟨b, o, none⟩ :=
  ⟨Nat.le_trans h.1 hB.size, fun b o hb => (hB.cell (p := ⟨b, o, none⟩) hb).trans (h.2 b o hb)⟩
theorem sameB_refl (l : List Int) : sameB l l = true := by simp [sameB]
theorem sameB_eq {l m : List Int} (h : l = m) : sameB l m = true := by simp [sameB, h]
theorem quietE {P : Program} {f : FuncId} {args : Array Value} {w : World} {n : Nat} {v : Value} (h : Calls P f args (w.drewN n) fun e w' => e = .returned v ∧ (w.drewN n) = w') : Calls P f args (w.drewN n) fun e w'' => e = .returned v ∧ ∃ m, w'' = w.drewN m :=
  h.mono fun _ _ ⟨he, hm⟩ => ⟨he, n, hm.symm⟩
theorem same_t (A1 A2 : Option Addr) (n1 c1 n2 c2 : Nat) (l : List Int) (w : World) (h1 : Nums .i64 w A1 n1 c1 l) (h2 : Nums .i64 w A2 n2 c2 l) :
    Calls Try.prog 16 #[.slice A1 n1 c1, .slice A2 n2 c2] w fun e w' => e = .returned (.bool true) ∧ ∃ m, w' = w.drewN m :=
  (same_c A1 A2 n1 c1 n2 c2 l l w h1 h2).mono fun _ _ h => ⟨by rw [h.1, sameB_refl], h.2⟩
theorem same_e (A1 A2 : Option Addr) (n1 c1 n2 c2 : Nat) (l1 l2 : List Int) (w : World) (h1 : Nums .i64 w A1 n1 c1 l1) (h2 : Nums .i64 w A2 n2 c2 l2) :
    Calls Try.prog 16 #[.slice A1 n1 c1, .slice A2 n2 c2] w (RetB w (sameB l1 l2)) :=
  (same_c A1 A2 n1 c1 n2 c2 l1 l2 w h1 h2).mono fun _ _ h => ⟨h.1, E.of_q h.2⟩
def covB (a b : List Int) : Bool := decide ((subS a b).2 = 0)
theorem covers_e (A1 A2 : Option Addr) (n1 c1 n2 c2 : Nat) (l1 l2 : List Int) (w : World) (h1 : Nums .i64 w A1 n1 c1 l1) (h2 : Nums .i64 w A2 n2 c2 l2) :
    Calls Try.prog 21 #[.slice A1 n1 c1, .slice A2 n2 c2] w (RetB w (covB l1 l2)) := covers_c A1 A2 n1 c1 n2 c2 l1 l2 w h1 h2
end Go.Proofs.Ytbpfdogjjoceaaa
