/- Encode of the reference. -/
import Derived.Test.YtbpfdogjjoceaaaRF
import Derived.Test.YtbpfdogjjoceaaaREF
import Derived.Test.YtbpfdogjjoceaaaX
namespace Go.Proofs.Ytbpfdogjjoceaaa
open Go.RowKit

theorem sOf {w0 w2 : World} (hE : E w0 w2) : w0.heap.size ≤ w2.heap.size ∧ ∀ b o, b < w0.heap.size → w2.cell? ⟨b, o, none⟩ = w0.cell? ⟨b, o, none⟩ := ⟨hE.le, fun b o hb => hE.cell (p := ⟨b, o, none⟩) hb⟩
theorem step_appN {P : Program} {S T : TypeId} {k : IntKind} {by8 : Nat} (it : IntT P S T k by8) {W : World} {ops : Array Oper} {o : Oper} {a : Act} {K : Act → World → Prop} {Q : Exit → Act → World → Prop} {R : Prop} (hgd : o.guard = none) (s x : Operand)
    (ho : o.op = .call { callee := .builtin .append, args := #[s, x], argTypes := #[S, S] })
    (base : Nat) (A : Option Addr) (n c : Nat) (l : List Int) (hs : a.eval s = .slice A n c) (hown : Own k T W base A n c l)
    (A2 : Option Addr) (m c2 : Nat) (l2 : List Int) (hx : a.eval x = .slice A2 m c2) (hr : Nums k W A2 m c2 l2) (hlen : n + m ≤ 1099511627776) (hbase : base ≤ W.heap.size)
    (h : ∀ A' c' w', Own k T w' base A' (n + m) c' (l ++ l2) → W.grownBy w' (Value.slice A n c).ownBlock → Below base W w' → K (a.put o.dst (.slice A' (n + m) c')) w') :
    if Region.wanted o (yielded ops a.tmps) = true then Oper.wp P o a W K Q else R := by
  have hw : Region.wanted o (yielded ops a.tmps) = true := by simp [Region.wanted, hgd]
  rw [if_pos hw]
  obtain ⟨A', c', w', hrun, hO, h3, h5⟩ := run_appN it W o.type base A n c l hown A2 m c2 l2 hr hlen hbase
  unfold Oper.wp execOp
  simp only [ho, resolve, invoke, builtin, Sem.run_bind, Sem.run_pure, Result.andThen_ok, List.map_toArray, List.map_cons, List.map_nil, hs, hx, hrun]
  exact h A' c' w' hO h3 ((Below.refl base W).grown h3 hbase (ownBlock_le hown))

set_option maxHeartbeats 4000000 in
set_option maxRecDepth 100000 in
theorem refEncode_c (A : Option Addr) (n c : Nat) (l : List Int) (w : World) (h : Nums .i64 w A n c l) :
    Calls Try.prog 41 #[.slice A n c] w (RetOwn .u8 5 w (encodeS l)) := by
  have hm := h.n63
  cases hbag : isBagB l
  · have HT := Lib.hid (show encodeS l = [] by simp [encodeS, hbag])
    go_enter Try.func41, Try.ntmps41
    go_wp2_with (go_at_call 31; refine (refIs_c _ _ _ _ _ h).mono ?_; rintro e w' ⟨rfl, rfl⟩)
    go_ret
    exact RetOwn.mk_ HT.out (Own.nil _ _ _ _) (E.refl _)
  · have HT := Lib.hid (show encodeS l = uv (zig n) ++ uv (zig (amountsS l).length) ++ encF (amountsS l) by simp [encodeS, hbag, h.len])
    have hn64 : n ≤ 64 := by have := isBag_len hbag; rw [h.len] at this; exact this
    have ha64 : (amountsS l).length ≤ 64 := by
      have := amF_len l 0; rw [h.len] at this; simp [amountsS, hbag]; omega
    go_enter Try.func41, Try.ntmps41
    go_wp2_with (first
      | (go_at_call 31; refine (refIs_c _ _ _ _ _ h).mono ?_; rintro e w' ⟨rfl, rfl⟩)
      | (go_at_call 30; refine (refAmounts_c _ _ _ _ _ h).mono ?_; rintro e w1 ⟨A1, m, c1, rfl, hP, hE1⟩))
    have hm1 : m = (amountsS l).length := hP.1.symm
    have hP0 := hP.reads
    have hm64 : m ≤ 64 := by omega
    have HM := Lib.hid hm1
    clear hm1
    refine (refInt_c n _ (by omega) (by omega)).mono ?_
    rintro e w2 ⟨A2, n2, c2, rfl, hO2, hE2⟩
    have hl2 := uv_len10 (zig_lt n (by omega) (by omega))
    have hn2 : n2 ≤ 10 := by rw [← hO2.1]; exact hl2
    go_wp2_with fail
    refine (refInt_c m _ (by omega) (by omega)).mono ?_
    rintro e w3 ⟨A3, n3, c3, rfl, hO3, hE3⟩
    have hl3 := uv_len10 (zig_lt m (by omega) (by omega))
    have hn3 : n3 ≤ 10 := by rw [← hO3.1]; exact hl3
    have hE23 := hE2.trans hE3
    go_wp2_with (at_builtin; refine wpList_appN byteT _ rfl _ _ rfl w1.heap.size _ _ _ _ rfl (hO2.e hE3) _ _ _ _ rfl hO3.reads (by omega) hE23.le ?_; intro A4 c4 w4 hO4 hG4 hB4)
    have hE4 := hE23.up hB4
    clear hO2 hO3 hE2 hE3 hG4 hB4 hE23 hl2 hl3
    obtain ⟨p, hp⟩ : ∃ p, n2 + n3 = p := ⟨_, rfl⟩
    rw [hp] at hO4 ⊢
    have hp20 : p ≤ 20 := by omega
    clear hp hn2 hn3
    go_loopw [5, 6] (fun t i wr => ∃ (k p c' : Nat) (A' : Option Addr) (out : List Int), k ≤ m ∧ i = .int .i64 k ∧ t = .slice A' p c' ∧ Own .u8 5 wr w1.heap.size A' p c' out ∧ p ≤ 20 + 20 * k ∧ E w1 wr ∧ Hid (out ++ encF ((amountsS l).drop k) = encodeS l)) (fun _ i _ => m - (intOf i).toNat)
    case atStart => exact ⟨0, p, c4, A4, _, Nat.zero_le _, rfl, rfl, hO4, by omega, hE4, show _ = _ by rw [HT.out, HM.out]; rfl⟩
    case round =>
      obtain ⟨k, p, c', A', out, hk, rfl, rfl, hown, hp, hE, hs⟩ := hrel
      have hle := hE.le
      by_cases hlt : k < m
      · obtain ⟨b, o, x, y, rfl, hb, hx, hwx, hwy, hc1, hc2⟩ := hP0.get hlt
        have HX := Lib.hid (encF_step hx)
        have bx := wf_i64 hwx
        have byy := wf_i64 hwy
        have hlx := uv_len10 (zig_lt x bx.1 bx.2)
        have hly := uv_len10 (zig_lt y byy.1 byy.2)
        have HBX := Lib.hid bx
        have HBY := Lib.hid byy
        have HLX := Lib.hid hlx
        have HLY := Lib.hid hly
        have hltI : (k : Int) < (m : Int) := by omega
        have hk0 : (0 : Int) ≤ (k : Int) := by omega
        clear hx hwx hwy bx byy hlx hly
        replace hown := hown.e (E.refl wr).drew
        replace hE := hE.drew
        go_wp2
        go_region_held3 (fun w' => w1.heap.size ≤ w'.heap.size ∧ ∀ b o, b < w1.heap.size → w'.cell? ⟨b, o, none⟩ = w1.cell? ⟨b, o, none⟩)
          (first | exact sOf hE | exact sKeep (by assumption) (by assumption) | exact sKeepB (by assumption) (by assumption))
          (first
            | (go_at_call 63; refine (refInt_c _ _ (by first | exact HBX.out.1 | exact HBY.out.1) (by first | exact HBX.out.2 | exact HBY.out.2)).mono ?_; rintro e w' ⟨As, ns, cs, rfl, hOs, hEs⟩; replace hown := hown.e hEs; replace hE := hE.trans hEs; have hsr := hOs.reads; have hns : ns ≤ 10 := (by rw [← hOs.1]; first | exact HLX.out | exact HLY.out))
            | (refine step_appN byteT (by rfl) _ _ (by rfl) w1.heap.size _ _ _ _ (by rfl) hown _ _ _ _ (by rfl) hsr (by omega) hE.le ?_; intro Aq cq w' hOq hGq hBq; replace hown := hOq; replace hE := hE.up hBq))
        rename_i hHeld
        clear hHeld
        go_wp2
        go_roundw
        case rel => exact ⟨k + 1, _, _, _, _, by omega, by go_num, rfl, hown, by omega, hE, show _ = _ by rw [← hs.out, HX.out]; simp⟩
        case measure => simp [intOf]; omega
      · have HF := Lib.hid (show encodeS l = out by rw [← hs.out, drop_end hP.1 (by omega)]; simp [encF])
        go_wp2
        go_ret
        exact RetOwn.mk_ HF.out (hown.rebase hE1.le) (hE1.trans hE)
end Go.Proofs.Ytbpfdogjjoceaaa
