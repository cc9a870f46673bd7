/- Bids in memory; the set of a bid's lots; Conflict. -/
import Derived.Test.YtpbkfpkgbfifaaaKA
namespace Go.Proofs.Ytpbkfpkgbfifaaa
open Go.RowKit

def RetK (w : World) (b : Bool) (e : Ending) (w' : World) : Prop := e = .returned (.bool b) ∧ E w w'
/-- a slice that reads as a list of bids -/
structure BidsAt (w : World) (A : Option Addr) (n c : Nat) (l : List Bd) : Prop where
  len : l.length = n
  cap : n ≤ c
  mx : c ≤ maxLen
  at_ : 0 < n → ∃ b o, A = some ⟨b, o, none⟩ ∧ b < w.heap.size ∧ ∀ i x, l[i]? = some x → (Lit.int .i64 x.1).wf = true ∧ (Lit.int .i64 x.2.1).wf = true ∧
    w.cell? ⟨b, o + i * 3, none⟩ = some (.int .i64 x.1) ∧ w.cell? ⟨b, o + i * 3 + 1, none⟩ = some (.int .i64 x.2.1) ∧
    ∃ A' n' c', w.cell? ⟨b, o + i * 3 + 2, none⟩ = some (.slice A' n' c') ∧ Nums .i64 w A' n' c' x.2.2
theorem BidsAt.e {w w' : World} {A : Option Addr} {n c : Nat} {l : List Bd} (h : BidsAt w A n c l) (he : E w w') : BidsAt w' A n c l :=
  ⟨h.len, h.cap, h.mx, fun hn => by
    obtain ⟨b, o, e, hb, hc⟩ := h.at_ hn
    refine ⟨b, o, e, Nat.lt_of_lt_of_le hb he.le, fun i x hx => ?_⟩
    obtain ⟨h1, h2, h3, h4, A', n', c', h5, h6⟩ := hc i x hx
    exact ⟨h1, h2, by rw [he.cell (p := ⟨b, _, none⟩) hb]; exact h3, by rw [he.cell (p := ⟨b, _, none⟩) hb]; exact h4, A', n', c', by rw [he.cell (p := ⟨b, _, none⟩) hb]; exact h5, h6.e he⟩⟩
theorem BidsAt.n63 {w : World} {A : Option Addr} {n c : Nat} {l : List Bd} (h : BidsAt w A n c l) : n ≤ 9223372036854775807 := by
  have := h.cap; have := h.mx; unfold maxLen at this; omega
theorem BidsAt.get {w : World} {A : Option Addr} {n c : Nat} {l : List Bd} (h : BidsAt w A n c l) {i : Nat} (hi : i < n) :
    ∃ b o x A' n' c', A = some ⟨b, o, none⟩ ∧ b < w.heap.size ∧ l[i]? = some x ∧ (Lit.int .i64 x.1).wf = true ∧ (Lit.int .i64 x.2.1).wf = true ∧
      w.cell? ⟨b, o + i * 3, none⟩ = some (.int .i64 x.1) ∧ w.cell? ⟨b, o + i * 3 + 1, none⟩ = some (.int .i64 x.2.1) ∧ w.cell? ⟨b, o + i * 3 + 2, none⟩ = some (.slice A' n' c') ∧ Nums .i64 w A' n' c' x.2.2 := by
  obtain ⟨b, o, e, hb, hc⟩ := h.at_ (by omega)
  have hx : l[i]? = some (l[i]'(by rw [h.len]; exact hi)) := List.getElem?_eq_getElem _
  obtain ⟨h1, h2, h3, h4, A', n', c', h5, h6⟩ := hc i _ hx
  exact ⟨b, o, _, A', n', c', e, hb, hx, h1, h2, h3, h4, h5, h6⟩
def bdV (x : Bd) (A : Option Addr) (n c : Nat) : Value := .agg #[.int .i64 x.1, .int .i64 x.2.1, .slice A n c]

set_option maxHeartbeats 1000000 in
theorem set_c (x : Bd) (A : Option Addr) (n c : Nat) (w : World) (h : Nums .i64 w A n c x.2.2) :
    Calls Try.prog 52 #[bdV x A n c] w fun e w' => ∃ b m, e = .returned (.map (some b)) ∧ w.heap.size ≤ b ∧ m ≤ n ∧ SetB w' b m (fun t => x.2.2.contains t) ∧ E w w' := by
  have hm := h.n63
  have hmx := h.mx
  have hcp := h.cap
  have hmm : ∀ (k : Int) (w : World), (Instr.makeMap 78 (some (.int .i64 k))).run Try.prog w = .ok (.map (some w.heap.size)) (w.alloc (.map #[] 0)) := fun k w => by
    simp [Instr.makeMap, run_underlying Try.underlying78, asInt, asIntOf, Result.andThen]
  unfold bdV
  go_enter Try.func52, Try.ntmps52
  go_wp2_with fail
  go_loopw [13] (fun i wr => ∃ k : Nat, k ≤ n ∧ i = .int .i64 k ∧ SetB wr (w.heap.size + 1) k (fun t => (x.2.2.take k).contains t) ∧ E w wr) (fun i _ => n - (intOf i).toNat)
  case atStart => exact ⟨0, Nat.zero_le _, rfl, by have := SetB.made (w.alloc (.cells #[.int .i64 x.1, .int .i64 x.2.1, .slice A n c] 50)); rw [World.size_alloc] at this; simpa using this, ((E.refl w).alloc _).alloc _⟩
  case round =>
    obtain ⟨k, hk, rfl, hS, hE⟩ := hrel
    by_cases hlt : k < n
    · obtain ⟨b, o, y, rfl, hb, hy, hwy, hcy⟩ := (h.e hE).get hlt
      obtain ⟨w2, hrun, hS2, hG2⟩ := hS.put hwy (by omega)
      have HS := Lib.hid (show SetB w2 (w.heap.size + 1) (k + 1) (fun t => (x.2.2.take (k + 1)).contains t) by
        have e : (fun t => (x.2.2.take (k + 1)).contains t) = (fun t => t == y || (x.2.2.take k).contains t) := by
          funext t
          rw [List.take_add_one, hy]
          rw [Bool.eq_iff_iff]; simp [or_comm]
        rw [e]; exact hS2)
      have HE := Lib.hid (show E w w2 from hE.grown hG2 (fun k hk => by injection hk with hk; omega))
      clear hS2 hG2 hy
      go_wp2_with fail
      go_roundw
      case rel => exact ⟨k + 1, by omega, by go_num, HS.out, HE.out⟩
      case measure => simp [intOf]; omega
    · have HS := Lib.hid (show SetB wr (w.heap.size + 1) k (fun t => x.2.2.contains t) by
        have : x.2.2.take k = x.2.2 := List.take_of_length_le (by rw [h.len]; omega)
        rw [this] at hS; exact hS)
      go_wp2_with fail
      go_ret
      exact ⟨_, k, rfl, by simp, hk, HS.out, hE⟩

theorem conflict1_c (b m B : Nat) (f : Int → Bool) (t : Int) (w : World) (ht : (Lit.int .i64 t).wf = true) (hB : w.cell? ⟨B, 0, none⟩ = some (.map (some b))) (hS : SetB w b m f) :
    Calls Try.prog 61 #[.int .i64 t, .pointer (some ⟨B, 0, none⟩)] w (RetK w (f t)) := by
  have hl := hS.look ht
  clear hS
  go_enter Try.func61, Try.ntmps61
  go_wp2_with fail
  go_ret
  exact ⟨rfl, E.refl _⟩

set_option maxHeartbeats 1000000 in
theorem conflict_c (x y : Bd) (A1 A2 : Option Addr) (n1 c1 n2 c2 : Nat) (w : World) (h1 : Nums .i64 w A1 n1 c1 x.2.2) (h2 : Nums .i64 w A2 n2 c2 y.2.2) :
    Calls Try.prog 33 #[bdV x A1 n1 c1, bdV y A2 n2 c2] w (RetK w (confl x y)) := by
  have HF := Lib.hid (show confl x y = (x.1 == y.1 || y.2.2.any fun t => x.2.2.contains t) by
    rw [confl_symm, confl]
    congr 1
    rw [Bool.eq_iff_iff]; simp; exact eq_comm)
  have hcall := Try.call61
  have hset := fun w h => set_c x A1 n1 c1 w h
  unfold bdV at *
  by_cases hb : x.1 = y.1
  · have HT := Lib.hid (show confl x y = true by rw [HF.out, hb]; simp)
    go_enter Try.func33, Try.ntmps33
    go_wp2_with fail
    go_ret
    exact ⟨ret_bool HT.out.symm, ((E.refl w).alloc _).alloc _⟩
  · have HT := Lib.hid (show confl x y = y.2.2.any fun t => x.2.2.contains t by rw [HF.out]; simp [hb])
    go_enter Try.func33, Try.ntmps33
    go_wp2_with fail
    refine (hset _ (h1.e (((E.refl w).alloc _).alloc _))).mono ?_
    rintro e w1 ⟨b, m, rfl, hb1, hm, hS, hE1⟩
    have hbs : w.heap.size + 2 ≤ w1.heap.size := by have := hE1.le; simpa using this
    have hEw : E w w1 := (((E.refl w).alloc _).alloc _).trans hE1
    have hcy : (w1.alloc (.cells #[.map (some b)] 78)).cell? ⟨w.heap.size + 1, 2, none⟩ = some (.slice A2 n2 c2) := by
      rw [((E.refl w1).alloc _).cell (p := ⟨w.heap.size + 1, 2, none⟩) (by show w.heap.size + 1 < w1.heap.size; omega), hE1.cell (p := ⟨w.heap.size + 1, 2, none⟩) (by simp)]
      have := (MapKept.heap_alloc (w.alloc (.cells #[.int .i64 x.1, .int .i64 x.2.1, .slice A1 n1 c1] 50)) (.cells #[.int .i64 y.1, .int .i64 y.2.1, .slice A2 n2 c2] 50)).1
      rw [World.size_alloc] at this
      unfold World.cell?; dsimp only; rw [this]; rfl
    have hbox : (w1.alloc (.cells #[.map (some b)] 78)).cell? ⟨w1.heap.size, 0, none⟩ = some (.map (some b)) := cell_new _ _ _
    have hE2 : E w1 (w1.alloc (.cells #[.map (some b)] 78)) := (E.refl _).alloc _
    have hsz : w1.heap.size < (w1.alloc (.cells #[.map (some b)] 78)).heap.size := by simp
    have HC := Lib.hid (containsFunc_c 61 [.pointer (some ⟨w1.heap.size, 0, none⟩)] (fun t => x.2.2.contains t) A2 n2 c2 y.2.2 (w1.alloc (.cells #[.map (some b)] 78)) ((h2.e hEw).e hE2) hcall
      (fun t wr ht hE => conflict1_c b m w1.heap.size _ t wr (h2.wf t ht) (by rw [hE.cell (p := ⟨w1.heap.size, 0, none⟩) hsz]; exact hbox) ((hS.e hE2).e hE)))
    clear hS hset
    go_wp2_with fail
    refine HC.out.mono ?_
    rintro e w2 ⟨rfl, hE3⟩
    go_wp2_with fail
    go_ret
    exact ⟨ret_bool (by rw [HT.out]; simp), (hEw.trans hE2).trans hE3⟩
end Go.Proofs.Ytpbkfpkgbfifaaa
