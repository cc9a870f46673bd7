/- Sets in maps, IndexFunc and ContainsFunc, bids in memory, Conflict. -/
import Derived.Maps.Own
import Derived.Maps.Views
import Derived.Maps.OwnOps
import Derived.Test.YtpbkfpkgbfifaaaChecked
import Derived.Test.YtpbkfpkgbfifaaaLN
import Derived.Test.YtpbkfpkgbfifaaaCQ
namespace Go.Proofs.Ytpbkfpkgbfifaaa
open Go.RowKit

/-- block b is a map from numbers to truth values, true just where f says so -/
def SetB (w : World) (b n : Nat) (f : Int → Bool) : Prop :=
  ∃ D : DataW Unit, w.ownsMap Try.prog 3 (plainElem Try.prog 4) b n D ∧ Maps.IsMap D ∧ (∀ x, D.atKey (.int .i64 x) (.lit (.bool false)) = .lit (.bool (f x))) ∧ ∀ x, Maps.has D (.int .i64 x) = f x
theorem SetB.made (w : World) : SetB (w.alloc (.map #[] 0)) w.heap.size 0 (fun _ => false) := ⟨_, World.ownsMap_made _ _ _ _, Maps.isMap_empty, fun _ => rfl, fun _ => rfl⟩
theorem SetB.lt {w : World} {b n : Nat} {f : Int → Bool} (h : SetB w b n f) : b < w.heap.size := by obtain ⟨D, h1, _⟩ := h; exact h1.lt
theorem SetB.block {w w' : World} {b n : Nat} {f : Int → Bool} (h : SetB w b n f) (hb : w'.heap[b]? = w.heap[b]?) : SetB w' b n f := by
  obtain ⟨D, ⟨es, clock, h1, h2⟩, h3⟩ := h
  exact ⟨D, ⟨es, clock, hb.trans h1, h2⟩, h3⟩
theorem SetB.e {w w' : World} {b n : Nat} {f : Int → Bool} (h : SetB w b n f) (hE : E w w') : SetB w' b n f := h.block (hE.block h.lt)
theorem SetB.look {w : World} {b n : Nat} {f : Int → Bool} (h : SetB w b n f) {x : Int} (hx : (Lit.int .i64 x).wf = true) : (Instr.lookup 78 (.map (some b)) (.int .i64 x) false).run Try.prog w = .ok (.bool (f x)) w := by
  obtain ⟨D, h1, h2, h3, _⟩ := h
  obtain ⟨v, ps, hrun, hv⟩ := h1.lookup (Maps.int_keyed Try.underlying3) Try.underlying78 (Try.zeroValue4 _) (plainElem_bool Try.underlying4 false) (Maps.keyOf_int_mk Try.underlying3 hx)
  rw [hrun]
  rw [h3] at hv
  cases v <;> simp [plainElem, Try.underlying4] at hv
  rw [hv.1]
/-- lots[x] = true -/
theorem SetB.put {w : World} {b n : Nat} {f : Int → Bool} (h : SetB w b n f) {x : Int} (hx : (Lit.int .i64 x).wf = true) (hn : n < maxLen) : ∃ w', (Instr.mapUpdate 78 (.map (some b)) (.int .i64 x) (.bool true)).run Try.prog w = .ok () w' ∧ SetB w' b (n + 1) (fun y => y == x || f y) ∧ w.grownBy w' (some b) := by
  obtain ⟨D, h1, h2, h3, h4⟩ := h
  obtain ⟨w', r1, r2, r3⟩ := h1.update (Maps.int_keyed Try.underlying3) Try.underlying78 hn (Maps.keyOf_int_mk Try.underlying3 hx) (plainElem_bool Try.underlying4 true)
  refine ⟨w', r1, ⟨_, r2, h2.put _ _, fun y => ?_, fun y => ?_⟩, r3⟩
  · by_cases e : y = x
    · subst e; rw [Maps.atKey_put_same h2 (by trivial)]; simp
    · rw [Maps.atKey_put_other (by intro e'; injection e' with _ e'; exact e e'), h3]; simp [e]
  · by_cases e : y = x
    · subst e; rw [Maps.has_put_same h2 (by trivial)]; simp
    · rw [Maps.has_put_other (by intro e'; injection e' with _ e'; exact e e'), h4]; simp [e]

/-- what a function value does that is handed to IndexFunc: it says p of a number, and leaves what there was -/
def PredC (F : FuncId) (caps : List Value) (l : List Int) (p : Int → Bool) (w : World) : Prop :=
  ∀ (x : Int) (wr : World), x ∈ l → E w wr → Calls Try.prog F (.int .i64 x :: caps).toArray wr fun e w' => e = .returned (.bool (p x)) ∧ E wr w'
def idxF (p : Int → Bool) (l : List Int) : Int := match l.findIdx? p with | some i => i | none => -1

set_option maxHeartbeats 1000000 in
theorem indexFunc_c (F : FuncId) (caps : List Value) (p : Int → Bool) (A : Option Addr) (n c : Nat) (l : List Int) (w : World) (h : Nums .i64 w A n c l)
    (hcall : ∀ (args : Array Value) (wr : World), (callFunc F args).run Try.prog wr = .ok (.enter F args) wr) (hf : PredC F caps l p w) :
    Calls Try.prog 70 #[.slice A n c, .func (.func F) #[] caps.toArray] w fun e w' => e = .returned (.int .i64 (idxF p l)) ∧ E w w' := by
  have hm := h.n63
  have HF := Lib.hid hf
  clear hf
  go_enter Try.func70, Try.ntmps70
  go_wp2_with fail
  go_loopw [8] (fun i wr => ∃ k : Nat, k ≤ n ∧ i = .int .i64 k ∧ E w wr ∧ Hid (∀ j x, j < k → l[j]? = some x → p x = false)) (fun i _ => n - (intOf i).toNat)
  case atStart => exact ⟨0, Nat.zero_le _, rfl, E.refl _, fun j x hj => absurd hj (by omega)⟩
  case round =>
    obtain ⟨k, hk, rfl, hE, hno⟩ := hrel
    by_cases hlt : k < n
    · obtain ⟨b, o, x, rfl, hb, hx, hwx, hcx⟩ := (h.e hE).get hlt
      have HX := Lib.hid hx
      have hC := HF.out x wr (List.mem_of_getElem? hx) hE
      clear hx
      cases hp : p x
      · rw [hp] at hC
        go_wp2_with fail
        refine hC.mono ?_
        rintro e w' ⟨rfl, hE'⟩
        go_wp2_with fail
        go_roundw
        case rel => exact ⟨k + 1, by omega, by go_num, hE.trans hE', fun j y hj hy => by
          by_cases e : j = k
          · subst e; rw [HX.out] at hy; injection hy with hy; subst hy; exact hp
          · exact hno.out j y (by omega) hy⟩
        case measure => simp [intOf]; omega
      · rw [hp] at hC
        have HR := Lib.hid (show idxF p l = (k : Int) by
          have : l.findIdx? p = some k := by
            rw [List.findIdx?_eq_some_iff_getElem]
            obtain ⟨hl, e⟩ := List.getElem?_eq_some_iff.1 HX.out
            exact ⟨hl, by rw [e]; exact hp, fun j hj => by have := hno.out j _ hj (List.getElem?_eq_getElem (by omega)); simpa using this⟩
          rw [idxF, this])
        go_wp2_with fail
        refine hC.mono ?_
        rintro e w' ⟨rfl, hE'⟩
        go_wp2_with fail
        go_ret
        exact ⟨ret_int HR.out.symm, hE.trans hE'⟩
    · have HR := Lib.hid (show idxF p l = -1 by
        have : l.findIdx? p = none := by
          rw [List.findIdx?_eq_none_iff]
          intro x hx
          obtain ⟨j, hj, e⟩ := List.getElem_of_mem hx
          have := h.len
          exact hno.out j x (by omega) (by rw [← e]; exact List.getElem?_eq_getElem hj)
        rw [idxF, this])
      go_wp2_with fail
      go_ret
      exact ⟨ret_int HR.out.symm, hE⟩
theorem idxF_any (p : Int → Bool) (l : List Int) : decide (0 ≤ idxF p l) = l.any p := by
  unfold idxF
  cases h : l.findIdx? p with
  | none =>
    rw [List.findIdx?_eq_none_iff] at h
    have : l.any p = false := by rw [List.any_eq_false]; intro x hx; simp [h x hx]
    rw [this]; rfl
  | some i =>
    rw [List.findIdx?_eq_some_iff_getElem] at h
    obtain ⟨hl, hp, _⟩ := h
    have : l.any p = true := List.any_eq_true.2 ⟨_, List.getElem_mem hl, hp⟩
    rw [this]; simp
theorem idxF_range (p : Int → Bool) (l : List Int) (h : l.length ≤ 9223372036854775807) : -1 ≤ idxF p l ∧ idxF p l ≤ 9223372036854775807 := by
  unfold idxF
  cases h : l.findIdx? p with
  | none => simp
  | some i =>
    rw [List.findIdx?_eq_some_iff_getElem] at h
    obtain ⟨hl, _⟩ := h
    simp only; omega
set_option maxHeartbeats 1000000 in
theorem containsFunc_c (F : FuncId) (caps : List Value) (p : Int → Bool) (A : Option Addr) (n c : Nat) (l : List Int) (w : World) (h : Nums .i64 w A n c l)
    (hcall : ∀ (args : Array Value) (wr : World), (callFunc F args).run Try.prog wr = .ok (.enter F args) wr) (hf : PredC F caps l p w) :
    Calls Try.prog 53 #[.slice A n c, .func (.func F) #[] caps.toArray] w fun e w' => e = .returned (.bool (l.any p)) ∧ E w w' := by
  have HC := Lib.hid (indexFunc_c F caps p A n c l w h hcall hf)
  have hr := idxF_range p l (by rw [h.len]; exact h.n63)
  have HB := Lib.hid (idxF_any p l)
  obtain ⟨r, hre⟩ : ∃ r, idxF p l = r := ⟨_, rfl⟩
  rw [hre] at HC hr HB
  clear hf
  go_enter Try.func53, Try.ntmps53
  go_wp2_with fail
  refine HC.out.mono ?_
  rintro e w' ⟨rfl, hE'⟩
  go_wp2_with fail
  go_ret
  exact ⟨ret_bool HB.out, hE'⟩
end Go.Proofs.Ytpbkfpkgbfifaaa
